/- Walks that the law PoolOnce needs: Get, the reference's Zero; texts as keys. -/
import Derived.Test.YtdpbjigdihajjaaDoorLawFullA
import Derived.Test.YtdpbjigdihajjaaDoorRange
namespace Go.Proofs.YtdpbjigdihajjaaDoor
open Go.RowKit

section
variable {w : World} {G : Nat → Prop} {s : Value} {most : Int} {es : List (Int × Blk)} {bs : List (List (Int × Int))}
set_option maxHeartbeats 1000000 in
set_option maxRecDepth 100000 in
theorem get_any (id : Int) (t : ByteArray) (r : Int) (h : PoolIs w G s most es bs) (h0 : id ≠ 0) (hn : lkE es id = some (t, r)) (hr : r ≠ 0) :
    Calls Tryd.prog 16 #[s, .int .i64 id] w fun e w' => e = .returned (.tuple #[.string t, .int .i64 0]) ∧ w' = w := by
  have HP := hide h
  obtain ⟨p, m, q, rfl, h2, h3, h4, h5, h6, h7, h8, h9, h10, h11⟩ := h
  have q1 : (id == 0) = false := beq_eq_false_iff_ne.2 h0
  have H0 := hide h0
  have Hn := hide hn
  have Hr := hide hr
  have Htr := hide (show (lkE es id).getD (⟨#[]⟩, 0) = (t, r) by rw [hn]; rfl)
  have hf0 := field0
  clear h11 h0 hn hr
  go_enter Tryd.func16, Tryd.ntmps16
  go_wp2_with (first | (go_at_call 35; refine (there_yes id (unhide HP) (unhide H0) t r (unhide Hn) (unhide Hr)).mono ?_; rintro e w' ⟨he, hw⟩; subst he; subst hw) | (at_lookup; refine wpList_lookup_blk rfl _ _ rfl es m rfl h10 id rfl t r (unhide Htr) ?_))
  go_ret2
  exact ⟨rfl, rfl⟩
end
theorem pl_get {w : World} {G : Nat → Prop} {s : Value} {most : Int} {es : List (Int × Blk)} (id : Int) (t : ByteArray) (r : Int) (h : Pl w G s most es) (hn : lkE es id = some (t, r)) :
    Calls Tryd.prog 16 #[s, .int .i64 id] w fun e w' => e = .returned (.tuple #[.string t, .int .i64 0]) ∧ w' = w := by
  obtain ⟨bs, h1, h2⟩ := h
  have hg := h2.good _ _ _ hn
  exact get_any id t r h1 (by omega) hn (by omega)

set_option maxHeartbeats 1000000 in
theorem refZero (s : ByteArray) (w : World) (hs : s.size ≤ 1000000) :
    Calls Tryd.prog 15 #[.string s] w fun e w' => e = .returned (.bool (zeroB s)) ∧ w' = w := by
  go_enter Tryd.func15, Tryd.ntmps15
  go_wp2_with fail
  go_loop [3] (fun i => ∃ k : Nat, k ≤ s.size ∧ i = .int .i64 k ∧ ((s.data.toList.take k).all fun b => b == 0) = true) (fun i => s.size - (intOf i).toNat)
  case atStart => exact ⟨0, Nat.zero_le _, rfl, by simp⟩
  case round =>
    obtain ⟨k, hk, rfl, hz⟩ := hrel
    have Hz := hide hz
    clear hz
    by_cases hlt : k < s.size
    · have Hsn := hide (take_snoc s k hlt)
      by_cases he : s[k] = 0
      · have q1 : ((s[k].toNat : Int) != 0) = false := by rw [he]; rfl
        have q2 : ((s[k].toNat : Int) == 0) = true := by rw [he]; rfl
        have He := hide he
        clear he
        go_wp2
        go_round
        case rel => exact ⟨k + 1, by omega, by go_num, by rw [unhide Hsn, List.all_append, unhide Hz]; simp [unhide He]⟩
        case measure => simp [intOf]; omega
      · have hne : (s[k].toNat : Int) ≠ 0 := fun e => he (UInt8.toNat_inj.1 (by simpa using e))
        have q1 : ((s[k].toNat : Int) != 0) = true := by simpa using hne
        have q2 : ((s[k].toNat : Int) == 0) = false := beq_eq_false_iff_ne.2 hne
        have hf : zeroB s = false := by
          unfold zeroB
          rw [List.all_eq_false]
          exact ⟨s[k], by rw [show s[k] = s.data.toList[k]'(by simpa using hlt) from rfl]; exact List.getElem_mem _, by simpa using he⟩
        have Hf := hide hf
        clear he hne hf
        go_wp2
        go_ret
        exact ⟨ret_bool (unhide Hf).symm, rfl⟩
    · have ht : zeroB s = true := by
        have := unhide Hz
        rw [List.take_of_length_le (by simp; omega)] at this
        exact this
      have Ht := hide ht
      clear ht
      go_wp2
      go_ret
      exact ⟨ret_bool (unhide Ht).symm, rfl⟩

/-- Texts, each with a number. -/
abbrev TN := List (ByteArray × Int)
def tnV (l : TN) : List (ByteArray × Value) := l.map fun e => (e.1, .int .i64 e.2)
def lkT : TN → ByteArray → Option Int
  | [], _ => none
  | p :: es, k => if p.1 = k then some p.2 else lkT es k
def putT : TN → ByteArray → Int → TN
  | [], k, v => [(k, v)]
  | p :: es, k, v => if p.1 = k then (k, v) :: es else p :: putT es k v
theorem lk_tnV (l : TN) (k : ByteArray) : lk (tnV l) k = (lkT l k).map fun x => .int .i64 x := by
  induction l with
  | nil => rfl
  | cons p es ih =>
    unfold tnV at ih ⊢
    rw [List.map_cons]
    unfold lk lkT
    by_cases h : p.1 = k
    · rw [if_pos h, if_pos h]; rfl
    · rw [if_neg h, if_neg h, ih]
theorem put_tnV (l : TN) (k : ByteArray) (x : Int) : put (tnV l) k (.int .i64 x) = tnV (putT l k x) := by
  induction l with
  | nil => rfl
  | cons p es ih =>
    unfold tnV at ih ⊢
    rw [List.map_cons]
    unfold put putT
    by_cases h : p.1 = k
    · rw [if_pos h, if_pos h]; rfl
    · rw [if_neg h, if_neg h, List.map_cons, ih]
theorem lkT_put (l : TN) (k j : ByteArray) (x : Int) : lkT (putT l k x) j = if j = k then some x else lkT l j := by
  induction l with
  | nil => simp [putT, lkT, eq_comm]
  | cons p es ih =>
    unfold putT
    by_cases h : p.1 = k
    · rw [if_pos h]
      show (if k = j then some x else lkT es j) = _
      by_cases h2 : j = k
      · rw [if_pos h2, if_pos h2.symm]
      · rw [if_neg h2, if_neg (Ne.symm h2)]
        show _ = if p.1 = j then some p.2 else lkT es j
        rw [if_neg (fun e => h2 (e.symm.trans h))]
    · rw [if_neg h]
      show (if p.1 = j then some p.2 else lkT (putT es k x) j) = if j = k then some x else if p.1 = j then some p.2 else lkT es j
      by_cases h2 : p.1 = j
      · rw [if_pos h2, if_pos h2, if_neg (fun e => h (h2.trans e))]
      · rw [if_neg h2, if_neg h2, ih]
theorem mem_tnV {l : TN} (hn : (l.map (·.1)).Nodup) {k : ByteArray} {v : Value} (h : (k, v) ∈ tnV l) : ∃ x, v = .int .i64 x ∧ lkT l k = some x := by
  unfold tnV at h
  obtain ⟨e, he, hh⟩ := List.mem_map.1 h
  injection hh with h1 h2
  subst h1 h2
  refine ⟨e.2, rfl, ?_⟩
  induction l with
  | nil => cases he
  | cons p es ih =>
    rw [List.map_cons, List.nodup_cons] at hn
    unfold lkT
    rcases List.mem_cons.1 he with rfl | he'
    · rw [if_pos rfl]
    · rw [if_neg, ih hn.2 he' (List.mem_map_of_mem (f := fun e : ByteArray × Int => (e.1, Value.int .i64 e.2)) he')]
      intro e1
      exact hn.1 (e1 ▸ List.mem_map_of_mem he')
theorem lkT_mem {l : TN} {k : ByteArray} {x : Int} (h : lkT l k = some x) : (k, .int .i64 x) ∈ tnV l := by
  induction l with
  | nil => cases h
  | cons p es ih =>
    unfold lkT at h
    unfold tnV at ih ⊢
    rw [List.map_cons]
    by_cases e : p.1 = k
    · rw [if_pos e] at h
      injection h with h
      subst e h
      exact List.mem_cons_self
    · rw [if_neg e] at h
      exact List.mem_cons_of_mem _ (ih h)
theorem tnV_keys (l : TN) : (tnV l).map (·.1) = l.map (·.1) := by simp [tnV]
end Go.Proofs.YtdpbjigdihajjaaDoor
