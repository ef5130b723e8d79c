/- Joined texts: PoolD, PoolB, PoolC, PoolE, PoolF, PoolG, PoolH, PoolI. -/
import Derived.Test.YtjjfdkdneibjbaaGreatDoorJw10
import Derived.Deep.RegionHeld3
import Derived.DeepKeys2
import Derived.StillTailTactics
/- What a pool is: its map, its shelf. -/
namespace Go.Proofs.YtjjfdkdneibjbaaGreatDoor
open Go.RowKit

/-- A block, how often it is held. -/
abbrev Blk := ByteArray × Int
def blkV (x : Blk) : Value := .agg #[.string x.1, .int .i64 x.2]
def esV (es : List (Int × Blk)) : List (Int × Value) := es.map fun e => (e.1, blkV e.2)
def lkE : List (Int × Blk) → Int → Option Blk
  | [], _ => none
  | p :: es, k => if p.1 = k then some p.2 else lkE es k
def putE : List (Int × Blk) → Int → Blk → List (Int × Blk)
  | [], k, v => [(k, v)]
  | p :: es, k, v => if p.1 = k then (k, v) :: es else p :: putE es k v
def delE (es : List (Int × Blk)) (k : Int) : List (Int × Blk) := es.filter fun p => p.1 ≠ k
theorem lk_esV (es : List (Int × Blk)) (k : Int) : lk (esV es) k = (lkE es k).map blkV := by
  induction es with
  | nil => rfl
  | cons p es ih =>
    unfold esV at ih ⊢
    rw [List.map_cons]
    unfold lk lkE
    by_cases h : p.1 = k
    · rw [if_pos h, if_pos h]; rfl
    · rw [if_neg h, if_neg h, ih]
theorem put_esV (es : List (Int × Blk)) (k : Int) (x : Blk) : put (esV es) k (blkV x) = esV (putE es k x) := by
  induction es with
  | nil => rfl
  | cons p es ih =>
    unfold esV at ih ⊢
    rw [List.map_cons]
    unfold put putE
    by_cases h : p.1 = k
    · rw [if_pos h, if_pos h]; rfl
    · rw [if_neg h, if_neg h, List.map_cons, ih]
theorem del_esV (es : List (Int × Blk)) (k : Int) : del (esV es) k = esV (delE es k) := by
  unfold del esV delE
  rw [List.filter_map]
  rfl
theorem esV_keys (es : List (Int × Blk)) : (esV es).map (·.1) = es.map (·.1) := by simp [esV]
theorem esV_len (es : List (Int × Blk)) : (esV es).length = es.length := by simp [esV]

/-- The pool s has room for so many, has these blocks; its shelf has these buckets. -/
def PoolIs (w : World) (G : Nat → Prop) (s : Value) (most : Int) (es : List (Int × Blk)) (bs : List (List (Int × Int))) : Prop :=
  ∃ (p m : Nat) (q : Nat), s = .pointer (some ⟨p, 0, none⟩) ∧ p < w.heap.size ∧ m < w.heap.size ∧ G p ∧ G m ∧ p ≠ m ∧
    w.cell? ⟨p, 0, none⟩ = some (.int .i64 most) ∧ w.cell? ⟨p, 1, none⟩ = some (.map (some m)) ∧ w.cell? ⟨p, 2, none⟩ = some (.pointer (some ⟨q, 0, none⟩)) ∧
    MapIs kInt w m (esV es) ∧ ShelfIs w (fun k => G k ∧ k ≠ p ∧ k ≠ m) (.pointer (some ⟨q, 0, none⟩)) bs
section
variable {w w' : World} {G : Nat → Prop} {s : Value} {most : Int} {es : List (Int × Blk)} {bs : List (List (Int × Int))}
theorem PoolIs.keep (h : PoolIs w G s most es bs) (hs : w.heap.size ≤ w'.heap.size) (hb : ∀ k, k < w.heap.size → G k → w'.heap[k]? = w.heap[k]?) : PoolIs w' G s most es bs := by
  obtain ⟨p, m, q, h1, h2, h3, h4, h5, h6, h7, h8, h9, h10, h11⟩ := h
  have hp := hb p h2 h4
  exact ⟨p, m, q, h1, by omega, by omega, h4, h5, h6, (World.cell?_of_block (a := ⟨p, 0, none⟩) hp).trans h7, (World.cell?_of_block (a := ⟨p, 1, none⟩) hp).trans h8, (World.cell?_of_block (a := ⟨p, 2, none⟩) hp).trans h9,
    h10.kept (hb m h3 h5), h11.keep hs fun k hk hf => hb k hk hf.1⟩
theorem PoolIs.below (h : PoolIs w G s most es bs) (hb : Below w.heap.size w w') : PoolIs w' G s most es bs := h.keep hb.size fun k hk _ => hb.block k hk
theorem PoolIs.drewN (h : PoolIs w G s most es bs) (n : Nat) : PoolIs (w.drewN n) G s most es bs := h
theorem PoolIs.mono {G' : Nat → Prop} (h : PoolIs w G s most es bs) (hG : ∀ k, G k → G' k) : PoolIs w G' s most es bs := by
  obtain ⟨p, m, q, h1, h2, h3, h4, h5, h6, h7, h8, h9, h10, h11⟩ := h
  exact ⟨p, m, q, h1, h2, h3, hG _ h4, hG _ h5, h6, h7, h8, h9, h10, h11.mono fun k hk => ⟨hG _ hk.1, hk.2⟩⟩
theorem PoolIs.ptr (h : PoolIs w G s most es bs) : ∃ p, s = .pointer (some ⟨p, 0, none⟩) := by
  obtain ⟨p, m, q, h1, _⟩ := h
  exact ⟨p, h1⟩
theorem PoolIs.nodup (h : PoolIs w G s most es bs) : (es.map (·.1)).Nodup := by
  obtain ⟨p, m, q, h1, h2, h3, h4, h5, h6, h7, h8, h9, h10, h11⟩ := h
  rw [← esV_keys]
  exact h10.nodup
end
theorem field1 (t : ByteArray) (r : Int) (w : World) : (Instr.field 132 (.agg #[.string t, .int .i64 r]) 1).run Tryz.prog w = .ok (.int .i64 r) w := by kernel_rfl
theorem field0 (t : ByteArray) (r : Int) (w : World) : (Instr.field 132 (.agg #[.string t, .int .i64 r]) 0).run Tryz.prog w = .ok (.string t) w := by kernel_rfl
theorem zeroBlk (w : World) : (zeroValue 132).run Tryz.prog w = .ok (.agg #[.string ⟨#[]⟩, .int .i64 0]) w := by kernel_rfl

section
variable {ops : Array Oper} {rest : List Oper} {o : Oper} {a : Act} {Q : Exit → Act → World → Prop} {w : World}
theorem wpList_lookup_blk (hg : o.guard = none) (m x : Operand) (hop : o.op = Op.lookup 112 m x false) (es : List (Int × Blk))
    (b : Nat) (hm : a.eval m = .map (some b)) (h : MapIs kInt w b (esV es)) (k : Int) (hx : a.eval x = .int .i64 k) (t : ByteArray) (r : Int) (htr : (lkE es k).getD (⟨#[]⟩, 0) = (t, r))
    (hK : wpList Tryz.prog ops Q rest (a.put o.dst (.agg #[.string t, .int .i64 r])) w) : wpList Tryz.prog ops Q (o :: rest) a w := by
  refine wpList_lookup_is hg m x _ false hop kInt (esV es) 3 132 Tryz.underlying112 Tryz.underlying3 _ (zeroBlk w) b hm h k hx ?_
  have e : (lk (esV es) k).getD (.agg #[.string ⟨#[]⟩, .int .i64 0]) = .agg #[.string t, .int .i64 r] := by
    rw [lk_esV]
    cases hl : lkE es k with
    | none => rw [hl] at htr; cases htr; rfl
    | some y => rw [hl] at htr; simp only [Option.getD_some] at htr; subst htr; rfl
  rw [e]
  exact hK
end
end Go.Proofs.YtjjfdkdneibjbaaGreatDoor
/- Walks of package pool: none, Room, Len, Refs. -/
namespace Go.Proofs.YtjjfdkdneibjbaaGreatDoor
open Go.RowKit

section
variable {w : World} {G : Nat → Prop} {s : Value} {most : Int} {es : List (Int × Blk)} {bs : List (List (Int × Int))}
theorem pnone_any (h : PoolIs w G s most es bs) :
    Calls Tryz.prog 68 #[s] w fun e w' => e = .returned (.bool false) ∧ w' = w := by
  obtain ⟨p, m, q, rfl, h2, h3, h4, h5, h6, h7, h8, h9, h10, h11⟩ := h
  have q0 := fun w1 => run_eql_map_nil (P := Tryz.prog) w1 112 _ _ (some m) Tryz.underlying112
  clear h11 h10
  go_enter Tryz.func68, Tryz.ntmps68
  go_wp2
  go_ret
  exact ⟨rfl, rfl⟩
theorem room_any (h : PoolIs w G s most es bs) (h0 : 0 ≤ most) (h1 : most ≤ 1000) (hl : es.length ≤ 1000) :
    Calls Tryz.prog 74 #[s] w fun e w' => e = .returned (.int .i64 (most - es.length)) ∧ ∃ n, w' = w.drewN n := by
  have HP := hide h
  obtain ⟨p, m, q, rfl, h2, h3, h4, h5, h6, h7, h8, h9, h10, h11⟩ := h
  have hlen := fun w1 (hh : MapIs kInt w1 m (esV es)) ty => run_len_is (P := Tryz.prog) hh Tryz.underlying112 ty
  rw [esV_len] at hlen
  have hlen0 := fun n => hlen (w.drewN n) (h10.drewN n)
  clear hlen
  clear h11
  go_enter Tryz.func74, Tryz.ntmps74
  go_wp2_with (go_at_call 68; refine (pnone_any (unhide HP)).mono ?_; rintro e w' ⟨he, hw⟩; subst he; subst hw)
  go_quiet (fail)
  go_wp2
  go_ret
  exact ⟨rfl, _, rfl⟩
set_option maxRecDepth 100000 in
theorem refs_any (id : Int) (h : PoolIs w G s most es bs) (t : ByteArray) (r : Int) (htr : (lkE es id).getD (⟨#[]⟩, 0) = (t, r)) :
    Calls Tryz.prog 130 #[s, .int .i64 id] w fun e w' => e = .returned (.int .i64 r) ∧ w' = w := by
  have HP := hide h
  obtain ⟨p, m, q, rfl, h2, h3, h4, h5, h6, h7, h8, h9, h10, h11⟩ := h
  have Htr := hide htr
  have hf1 := field1
  clear h11 htr
  go_enter Tryz.func130, Tryz.ntmps130
  go_wp2_with (first | (go_at_call 68; refine (pnone_any (unhide HP)).mono ?_; rintro e w' ⟨he, hw⟩; subst he; subst hw) | (at_lookup; refine wpList_lookup_blk rfl _ _ rfl es m rfl h10 id rfl t r (unhide Htr) ?_))
  go_ret
  exact ⟨rfl, rfl⟩
end
end Go.Proofs.YtjjfdkdneibjbaaGreatDoor
/- Walk of package pool: Find. -/
namespace Go.Proofs.YtjjfdkdneibjbaaGreatDoor
open Go.RowKit

/-- The shelf has just the blocks' fingerprints. -/
def PInv (es : List (Int × Blk)) (bs : List (List (Int × Int))) : Prop := ∀ x id, hasB bs x id ↔ ∃ t r, lkE es id = some (t, r) ∧ ofI t = x
theorem ShelfIs.drewN {w : World} {G : Nat → Prop} {s : Value} {bs : List (List (Int × Int))} (h : ShelfIs w G s bs) (n : Nat) : ShelfIs (w.drewN n) G s bs := h
/-- The number of the block with these bytes; 0: none has them. -/
def IsAt (es : List (Int × Blk)) (b : ByteArray) (R : Int) : Prop := (∃ r, lkE es R = some (b, r) ∧ ∀ id' r', lkE es id' = some (b, r') → id' = R) ∨ (R = 0 ∧ ∀ id' r', lkE es id' ≠ some (b, r'))

theorem bytes_ne {t b : ByteArray} (h : t ≠ b) : (t.toList == b.toList) = false := by
  rw [← Go.beq_toListBytes]
  cases hb : (t == b) with
  | false => rfl
  | true =>
    exfalso
    apply h
    have h1 : (t.data == b.data) = true := hb
    have h2 := eq_of_beq h1
    cases t; cases b; simp at h2; subst h2; rfl
/-- None of the first so many has these bytes. -/
def NotYet (es : List (Int × Blk)) (L : List Int) (b : ByteArray) (k : Nat) : Prop := ∀ j (hj : j < L.length), j < k → ∀ r, lkE es L[j] ≠ some (b, r)

section
variable {w : World} {G : Nat → Prop} {s : Value} {most : Int} {es : List (Int × Blk)} {bs : List (List (Int × Int))}
set_option maxHeartbeats 2000000 in
set_option maxRecDepth 100000 in
theorem pfind_any (b : ByteArray) (h : PoolIs w G s most es bs) (hi : PInv es bs) (hl : lenB bs < 1000000) (hb : b.size ≤ 1000000) (R : Int) (hR : IsAt es b R) :
    Calls Tryz.prog 72 #[s, .string b] w fun e w' => e = .returned (.int .i64 R) ∧ Below w.heap.size w w' := by
  have HP := hide h
  obtain ⟨p, m, q, rfl, h2, h3, h4, h5, h6, h7, h8, h9, h10, h11⟩ := h
  obtain ⟨x, hx⟩ : ∃ x, x = ofI b := ⟨_, rfl⟩
  have hxb := ofI_bd b
  rw [← hx] at hxb
  have hx0 := hxb.1
  have hx1 := hxb.2
  obtain ⟨L, hL⟩ : ∃ L, L = findL bs x := ⟨_, rfl⟩
  have hLl : L.length < 1000000 := by
    rw [hL]
    unfold findL
    rw [List.length_mergeSort, List.length_map]
    exact Nat.lt_of_le_of_lt (Nat.le_trans (List.length_filter_le _ _) (le_lenB _)) hl
  have hmem : ∀ id, id ∈ L ↔ ∃ t r, lkE es id = some (t, r) ∧ ofI t = x := fun id => by rw [hL, mem_findL]; exact hi x id
  have HX := hide hx
  have HL := hide hL
  have HM := hide hmem
  have HR := hide hR
  have hof : ∀ w1 : World, Calls Tryz.prog 143 #[.string b] w1 fun e w' => e = .returned (.int .u32 x) ∧ w' = w1 := fun w1 => by rw [hx]; exact pof_any b w1 hb
  have Hof := hide hof
  have HS := hide h11
  have HMp := hide h10
  have hf0 := field0
  clear hx hL hmem hR hi hof hxb h11 h10
  go_enter Tryz.func72, Tryz.ntmps72
  go_wp2_with (go_at_call 68; refine (pnone_any (unhide HP)).mono ?_; rintro e w' ⟨he, hw⟩; subst he; subst hw)
  go_region_held3 (fun w1 => w1.cell? ⟨p, 2, none⟩ = some (.pointer (some ⟨q, 0, none⟩)))
    (first | go_keep | exact ((bcell HB).1 p 2 h2).trans h9)
    ((first | (go_at_call 143; refine (unhide Hof _).mono ?_; rintro e w1 ⟨rfl, rfl⟩) | (go_at_call 142; refine (findG x (ShelfIs.drewN (unhide HS) _) hx0 hx1 hl L (unhide HL).symm).mono ?_; rintro e w1 ⟨A, c, rfl, ho, hS, HB⟩)))
  have B1 : Below w'.heap.size w' w1 := (below_drewN (Below.refl _ _) 1).trans HB
  have c1 := ((bcell B1).1 p 1 h2).trans h8
  have HMp1 := hide ((unhide HMp).below B1)
  obtain ⟨_, _, hv, hsl, _⟩ := ho.sl
  injection hv with hv1 _ hv2
  subst hv1 hv2
  have HRd := hide hsl.2.2.2
  clear HB ho hS hsl HMp
  go_wp2_with fail
  go_loop [17] (fun i => ∃ k : Nat, k ≤ L.length ∧ i = .int .i64 k ∧ NotYet es L b k) (fun i => L.length - (intOf i).toNat)
  case atStart => exact ⟨0, Nat.zero_le _, rfl, fun j _ h => absurd h (Nat.not_lt_zero _)⟩
  case round =>
    obtain ⟨k, hk, rfl, hne⟩ := hrel
    have Hne := hide hne
    clear hne
    by_cases hlt : k < L.length
    · obtain ⟨bb, off, hA', hbb, hr⟩ := unhide HRd (by omega)
      subst hA'
      have x0 : w1.cell? ⟨bb, off + k, none⟩ = some (.int .i64 L[k]) := by simpa [eI] using hr k hlt 0 (by decide)
      obtain ⟨id, hid⟩ : ∃ id, id = L[k] := ⟨_, rfl⟩
      obtain ⟨t, r, htr, hoft⟩ := (unhide HM id).1 (by rw [hid]; exact List.getElem_mem hlt)
      rw [← hid] at x0
      have Htr := hide (show (lkE es id).getD (⟨#[]⟩, 0) = (t, r) by rw [htr]; rfl)
      have Htr2 := hide htr
      have Hid := hide hid
      clear hr hid htr hoft
      by_cases he : t = b
      · go_wp2_with (at_lookup; refine wpList_lookup_blk rfl _ _ rfl es m rfl (unhide HMp1) id rfl t r (unhide Htr) ?_)
        have hRid : R = id := by
          have h := unhide Htr2
          rw [he] at h
          rcases unhide HR with ⟨r0, _, hu⟩ | ⟨_, hn⟩
          · exact (hu id r h).symm
          · exact absurd h (hn id r)
        go_ret
        exact ⟨ret_int hRid.symm, B1⟩
      · have He := hide he
        have q1 := bytes_ne he
        clear he
        go_wp2_with (at_lookup; refine wpList_lookup_blk rfl _ _ rfl es m rfl (unhide HMp1) id rfl t r (unhide Htr) ?_)
        go_round
        case rel =>
          refine ⟨k + 1, by omega, by go_num, fun j hj hjk r' h => ?_⟩
          rcases Nat.lt_or_ge j k with h1 | h1
          · exact unhide Hne j hj h1 r' h
          · obtain rfl : j = k := by omega
            rw [← unhide Hid, unhide Htr2] at h
            injection h with h
            injection h with h _
            exact unhide He h
        case measure => simp [intOf]; omega
    · have hR0 : R = 0 := by
        rcases unhide HR with ⟨r0, h0, _⟩ | ⟨h, _⟩
        · exfalso
          have hm := (unhide HM R).2 ⟨b, r0, h0, (unhide HX).symm⟩
          obtain ⟨j, hj, e⟩ := List.mem_iff_getElem.1 hm
          exact unhide Hne j hj (by omega) r0 (by rw [e]; exact h0)
        · exact h
      have HR0 := hide hR0
      clear hR0
      go_wp2
      go_ret
      exact ⟨ret_int (unhide HR0).symm, B1⟩
end
end Go.Proofs.YtjjfdkdneibjbaaGreatDoor
/- Walk of package pool: add. -/
namespace Go.Proofs.YtjjfdkdneibjbaaGreatDoor
open Go.RowKit

theorem Chg.of_drewN {F : Nat → Prop} {a b : World} {n : Nat} (h : Chg F (a.drewN n) b) : Chg F a b := ⟨h.os, h.tape, h.output, h.size, h.block⟩
theorem Chg.below_trans {F : Nat → Prop} {a b c : World} (h : Below a.heap.size a b) (k : Chg F b c) : Chg F a c := (Chg.of_below h).trans k
section
variable {w : World} {G : Nat → Prop} {s : Value} {most : Int} {es : List (Int × Blk)} {bs : List (List (Int × Int))}
/-- The pool behind a store into its map and a change of its shelf. -/
theorem PoolIs.turned {w1 w2 : World} {es' : List (Int × Blk)} {bs' : List (List (Int × Int))} {p m q : Nat} (h2 : p < w.heap.size) (h3 : m < w.heap.size) (h4 : G p) (h5 : G m) (h6 : p ≠ m)
    (h7 : w.cell? ⟨p, 0, none⟩ = some (.int .i64 most)) (h8 : w.cell? ⟨p, 1, none⟩ = some (.map (some m))) (h9 : w.cell? ⟨p, 2, none⟩ = some (.pointer (some ⟨q, 0, none⟩)))
    (hsz : w.heap.size ≤ w1.heap.size) (hp : w1.heap[p]? = w.heap[p]?) (hm : MapIs kInt w1 m (esV es'))
    (hc : Chg (fun k => G k ∧ k ≠ p ∧ k ≠ m) w1 w2) (hs : ShelfIs w2 (fun k => G k ∧ k ≠ p ∧ k ≠ m) (.pointer (some ⟨q, 0, none⟩)) bs') : PoolIs w2 G (.pointer (some ⟨p, 0, none⟩)) most es' bs' := by
  have e : w2.heap[p]? = w.heap[p]? := (hc.block p (by omega) fun h => h.2.1 rfl).trans hp
  have := hc.size
  exact ⟨p, m, q, rfl, by omega, by omega, h4, h5, h6, (World.cell?_of_block (a := ⟨p, 0, none⟩) e).trans h7, (World.cell?_of_block (a := ⟨p, 1, none⟩) e).trans h8, (World.cell?_of_block (a := ⟨p, 2, none⟩) e).trans h9,
    hm.kept (hc.block m (by omega) fun h => h.2.2 rfl), hs⟩

set_option maxHeartbeats 2000000 in
set_option maxRecDepth 100000 in
theorem add_any (id : Int) (t : ByteArray) (r : Int) (h : PoolIs w G s most es bs) (hG : ∀ k, w.heap.size ≤ k → G k) (hl : lenB bs < 1000000) (hb : t.size ≤ 1000000) (hn : ¬ hasB bs (ofI t) id) :
    Calls Tryz.prog 76 #[s, .int .i64 id, .agg #[.string t, .int .i64 r]] w fun e w' => e = .returned (.tuple #[]) ∧ PoolIs w' G s most (putE es id (t, r)) (putB bs (ofI t) id) ∧ Chg G w w' := by
  obtain ⟨p, m, q, rfl, h2, h3, h4, h5, h6, h7, h8, h9, h10, h11⟩ := h
  obtain ⟨x, hx⟩ : ∃ x, x = ofI t := ⟨_, rfl⟩
  have hxb := ofI_bd t
  rw [← hx] at hxb hn ⊢
  have hx0 := hxb.1
  have hx1 := hxb.2
  have hof : ∀ w1 : World, Calls Tryz.prog 143 #[.string t] w1 fun e w' => e = .returned (.int .u32 x) ∧ w' = w1 := fun w1 => by rw [hx]; exact pof_any t w1 hb
  obtain ⟨W0, hW0⟩ : ∃ W0, W0 = w.alloc (.cells #[.string t, .int .i64 r] 132) := ⟨_, rfl⟩
  have B0 : Below w.heap.size w W0 := by rw [hW0]; exact (Below.refl _ _).alloc (Nat.le_refl _) _
  have c0 : W0.cell? ⟨w.heap.size, 0, none⟩ = some (.string t) := by rw [hW0]; exact World.cell?_alloc_at _ _ _ _ rfl
  have c1 : W0.cell? ⟨w.heap.size, 1, none⟩ = some (.int .i64 r) := by rw [hW0]; exact World.cell?_alloc_at _ _ _ _ rfl
  have s0 : W0.heap.size = w.heap.size + 1 := by rw [hW0]; simp
  have d1 := ((bcell B0).1 p 1 h2).trans h8
  have d2 := ((bcell B0).1 p 2 h2).trans h9
  have HM := hide (h10.below B0)
  have HS := hide (h11.below B0)
  have Hof := hide hof
  have Hn := hide hn
  have H7 := hide h7
  have H8 := hide h8
  have H9 := hide h9
  have Hs0 := hide s0
  clear hx hof hn hxb h10 h11 h7 h8 h9 s0
  go_enter Tryz.func76, Tryz.ntmps76
  go_wp2_with fail
  rw [← hW0]
  clear hW0
  go_still_tail 6, (by kernel_rfl)
  change wpList _ _ _ _ _ W0.drew
  go_wp2_with (at_mapUpdate; refine wpList_update_is rfl _ _ _ _ rfl kInt (esV es) 3 132 Tryz.underlying112 Tryz.underlying3 m rfl ((unhide HM).drewN 1) id rfl (blkV (t, r)) rfl ?_; intro w1 HM1 HG1)
  have hpm : some p ≠ some m := fun e => h6 (by injection e)
  have sz0 := unhide Hs0
  have e1 : w1.heap[p]? = W0.heap[p]? := HG1.block p (by show p < W0.heap.size; omega) hpm
  have e2 : w1.heap[w.heap.size]? = W0.heap[w.heap.size]? := HG1.block _ (by show _ < W0.heap.size; omega) fun e => by injection e with e; omega
  have g2 : w1.cell? ⟨p, 2, none⟩ = some (.pointer (some ⟨q, 0, none⟩)) := (World.cell?_of_block (a := ⟨p, 2, none⟩) e1).trans d2
  have g0 : w1.cell? ⟨w.heap.size, 0, none⟩ = some (.string t) := (World.cell?_of_block (a := ⟨w.heap.size, 0, none⟩) e2).trans c0
  have sz1 : W0.heap.size ≤ w1.heap.size := HG1.size
  have HGx : W0.grownBy w1 (some m) := ⟨HG1.os, HG1.tape, HG1.output, HG1.size, HG1.block⟩
  have hC1 : Chg (fun k => k = m) W0 w1 := Chg.of_grown HGx sz1 fun k hk => by injection hk with hk; exact hk.symm
  have HC1 := hide hC1
  have HS1 := hide ((unhide HS).chg hC1 fun k hk e => hk.2.2 e)
  rw [put_esV] at HM1
  have HE1 := hide (e1.trans (B0.block p h2))
  have HM2 := hide HM1
  have hF : ∀ k, w1.heap.size ≤ k → G k ∧ k ≠ p ∧ k ≠ m := fun k hk => ⟨hG k (by omega), by omega, by omega⟩
  have HF := hide hF
  clear e1 e2 hC1 HG1 HGx HM1 hF d1 d2 c0 c1 HS HM hpm
  go_wp2_with fail
  refine wp_region_still_tail 8 (by kernel_rfl) (by kernel_rfl) ?_
  simp only [List.take_succ_cons, List.take_zero, List.drop_succ_cons, List.drop_zero]
  repeat still_step
  still_call (unhide Hof _)
  repeat still_step
  refine wpStill_nil ?_
  change wpList _ _ _ _ _ w1.drew
  go_wp2_with (go_at_call 144; refine (put_yesG x id (ShelfIs.drewN (unhide HS1) 1) (unhide HF) hx0 hx1 hl (unhide Hn)).mono ?_; rintro e w2 ⟨he, hS2, hC2⟩; subst he)
  go_end0
  refine ⟨rfl, PoolIs.turned h2 h3 h4 h5 h6 (unhide H7) (unhide H8) (unhide H9) (show w.heap.size ≤ w1.heap.size by omega) (unhide HE1) (unhide HM2) hC2.of_drewN hS2, ?_⟩
  exact Chg.below_trans B0 (((unhide HC1).mono fun k _ hk => hk ▸ h5).trans (hC2.of_drewN.mono fun k _ hk => hk.1))
end
end Go.Proofs.YtjjfdkdneibjbaaGreatDoor
/- Walks of package pool: there, least, turn. -/
namespace Go.Proofs.YtjjfdkdneibjbaaGreatDoor
open Go.RowKit

section
variable {w : World} {G : Nat → Prop} {s : Value} {most : Int} {es : List (Int × Blk)} {bs : List (List (Int × Int))}
set_option maxRecDepth 100000 in
theorem there_zero (h : PoolIs w G s most es bs) :
    Calls Tryz.prog 65 #[s, .int .i64 0] w fun e w' => e = .returned (.int .i64 0) ∧ w' = w := by
  have HP := hide h
  obtain ⟨p, rfl⟩ := h.ptr
  clear h
  go_enter Tryz.func65, Tryz.ntmps65
  go_wp2_with (go_at_call 68; refine (pnone_any (unhide HP)).mono ?_; rintro e w' ⟨he, hw⟩; subst he; subst hw)
  go_ret
  exact ⟨rfl, rfl⟩
set_option maxRecDepth 100000 in
theorem there_no (id : Int) (h : PoolIs w G s most es bs) (h0 : id ≠ 0) (hn : lkE es id = none) :
    Calls Tryz.prog 65 #[s, .int .i64 id] w fun e w' => e = .returned (.int .i64 2) ∧ w' = w := by
  have HP := hide h
  obtain ⟨p, rfl⟩ := h.ptr
  have q1 : (id != 0) = true := by simpa using h0
  have q2 : (id == 0) = false := beq_eq_false_iff_ne.2 h0
  have Hr := hide (show (lkE es id).getD (⟨#[]⟩, 0) = (⟨#[]⟩, 0) by rw [hn]; rfl)
  clear h h0 hn
  go_enter Tryz.func65, Tryz.ntmps65
  go_wp2_with (first | (go_at_call 68; refine (pnone_any (unhide HP)).mono ?_; rintro e w' ⟨he, hw⟩; subst he; subst hw) | (go_at_call 130; refine (refs_any id (unhide HP) _ _ (unhide Hr)).mono ?_; rintro e w' ⟨he, hw⟩; subst he; subst hw))
  go_ret
  exact ⟨rfl, rfl⟩
set_option maxRecDepth 100000 in
theorem there_yes (id : Int) (h : PoolIs w G s most es bs) (h0 : id ≠ 0) (t : ByteArray) (r : Int) (hn : lkE es id = some (t, r)) (hr : r ≠ 0) :
    Calls Tryz.prog 65 #[s, .int .i64 id] w fun e w' => e = .returned (.int .i64 0) ∧ w' = w := by
  have HP := hide h
  obtain ⟨p, rfl⟩ := h.ptr
  have q1 : (id != 0) = true := by simpa using h0
  have q2 : (id == 0) = false := beq_eq_false_iff_ne.2 h0
  have q3 : (r == 0) = false := beq_eq_false_iff_ne.2 hr
  have Hr := hide (show (lkE es id).getD (⟨#[]⟩, 0) = (t, r) by rw [hn]; rfl)
  clear h h0 hn hr
  go_enter Tryz.func65, Tryz.ntmps65
  go_wp2_with (first | (go_at_call 68; refine (pnone_any (unhide HP)).mono ?_; rintro e w' ⟨he, hw⟩; subst he; subst hw) | (go_at_call 130; refine (refs_any id (unhide HP) _ _ (unhide Hr)).mono ?_; rintro e w' ⟨he, hw⟩; subst he; subst hw))
  go_ret
  exact ⟨rfl, rfl⟩

/-- The least number that no block has. -/
def Least (es : List (Int × Blk)) (R : Int) : Prop := 1 ≤ R ∧ lkE es R = none ∧ ∀ j, 1 ≤ j → j < R → ∃ t r, lkE es j = some (t, r) ∧ 0 < r
set_option maxRecDepth 100000 in
theorem least_any (R : Int) (h : PoolIs w G s most es bs) (hR : Least es R) (hb : R ≤ 1000000) :
    Calls Tryz.prog 75 #[s] w fun e w' => e = .returned (.int .i64 R) ∧ w' = w := by
  have HP := hide h
  obtain ⟨p, rfl⟩ := h.ptr
  obtain ⟨h1, hn, hy⟩ := hR
  have Hr := hide (show (lkE es R).getD (⟨#[]⟩, 0) = (⟨#[]⟩, 0) by rw [hn]; rfl)
  have Hy := hide hy
  clear h hn hy
  go_enter Tryz.func75, Tryz.ntmps75
  go_wp2_with fail
  go_loop [3] (fun i => ∃ k : Int, 1 ≤ k ∧ k ≤ R ∧ i = .int .i64 k) (fun i => (R - intOf i).toNat)
  case atStart => exact ⟨1, by omega, h1, rfl⟩
  case round =>
    obtain ⟨k, hk1, hk2, rfl⟩ := hrel
    by_cases hlt : k < R
    · obtain ⟨t, r, htr, hr⟩ := unhide Hy k hk1 hlt
      have Htr := hide (show (lkE es k).getD (⟨#[]⟩, 0) = (t, r) by rw [htr]; rfl)
      clear htr
      go_wp2_with (go_at_call 130; refine (refs_any k (unhide HP) t r (unhide Htr)).mono ?_; rintro e w' ⟨he, hw⟩; subst he; subst hw)
      go_round
      case rel => exact ⟨k + 1, by omega, by omega, rfl⟩
      case measure => simp [intOf]; omega
    · obtain rfl : k = R := by omega
      go_wp2_with (go_at_call 130; refine (refs_any k (unhide HP) _ _ (unhide Hr)).mono ?_; rintro e w' ⟨he, hw⟩; subst he; subst hw)
      go_ret
      exact ⟨rfl, rfl⟩
end
end Go.Proofs.YtjjfdkdneibjbaaGreatDoor
/- Walk of package pool: turn. -/
namespace Go.Proofs.YtjjfdkdneibjbaaGreatDoor
open Go.RowKit

section
variable {w : World} {G : Nat → Prop} {s : Value} {most : Int} {es : List (Int × Blk)} {bs : List (List (Int × Int))}
set_option maxRecDepth 100000 in
theorem turn_none (id by' : Int) (h : PoolIs w G s most es bs) (h0 : id ≠ 0) (hn : lkE es id = none) :
    Calls Tryz.prog 87 #[s, .int .i64 id, .int .i64 by'] w fun e w' => e = .returned (.int .i64 2) ∧ w' = w := by
  have HP := hide h
  obtain ⟨p, rfl⟩ := h.ptr
  have H0 := hide h0
  have Hn := hide hn
  clear h h0 hn
  go_enter Tryz.func87, Tryz.ntmps87
  go_wp2_with (go_at_call 65; refine (there_no id (unhide HP) (unhide H0) (unhide Hn)).mono ?_; rintro e w' ⟨he, hw⟩; subst he; subst hw)
  go_ret
  exact ⟨rfl, rfl⟩
set_option maxRecDepth 100000 in
theorem turn_zero (by' : Int) (h : PoolIs w G s most es bs) :
    Calls Tryz.prog 87 #[s, .int .i64 0, .int .i64 by'] w fun e w' => e = .returned (.int .i64 0) ∧ w' = w := by
  have HP := hide h
  obtain ⟨p, rfl⟩ := h.ptr
  clear h
  go_enter Tryz.func87, Tryz.ntmps87
  go_wp2_with (go_at_call 65; refine (there_zero (unhide HP)).mono ?_; rintro e w' ⟨he, hw⟩; subst he; subst hw)
  go_ret
  exact ⟨rfl, rfl⟩

set_option maxHeartbeats 2000000 in
set_option maxRecDepth 100000 in
theorem turn_up (id by' : Int) (t : ByteArray) (r : Int) (h : PoolIs w G s most es bs) (hG : ∀ k, w.heap.size ≤ k → G k) (h0 : id ≠ 0) (hn : lkE es id = some (t, r)) (hr : r ≠ 0) (hs : r + by' ≠ 0)
    (hb1 : -1000000 ≤ r) (hb2 : r ≤ 1000000) (hb3 : -1000000 ≤ by') (hb4 : by' ≤ 1000000) :
    Calls Tryz.prog 87 #[s, .int .i64 id, .int .i64 by'] w fun e w' => e = .returned (.int .i64 0) ∧ PoolIs w' G s most (putE es id (t, r + by')) bs ∧ Chg G w w' := by
  have HP := hide h
  obtain ⟨p, m, q, rfl, h2, h3, h4, h5, h6, h7, h8, h9, h10, h11⟩ := h
  have q1 : (id == 0) = false := beq_eq_false_iff_ne.2 h0
  have q2 : (r + by' == 0) = false := beq_eq_false_iff_ne.2 hs
  obtain ⟨W0, hW0⟩ : ∃ W0, W0 = w.alloc (.cells #[.string t, .int .i64 (r + by')] 132) := ⟨_, rfl⟩
  have B0 : Below w.heap.size w W0 := by rw [hW0]; exact (Below.refl _ _).alloc (Nat.le_refl _) _
  have c0 : W0.cell? ⟨w.heap.size, 0, none⟩ = some (.string t) := by rw [hW0]; exact World.cell?_alloc_at _ _ _ _ rfl
  have c1 : W0.cell? ⟨w.heap.size, 1, none⟩ = some (.int .i64 (r + by')) := by rw [hW0]; exact World.cell?_alloc_at _ _ _ _ rfl
  have s0 : W0.heap.size = w.heap.size + 1 := by rw [hW0]; simp
  have d1 := ((bcell B0).1 p 1 h2).trans h8
  have HM0 := hide h10
  have HM := hide (h10.below B0)
  have HS := hide (h11.below B0)
  have l1 : w.heap.size < W0.drew.heap.size := by show w.heap.size < W0.heap.size; omega
  have n1 : some w.heap.size ≠ some m := fun e => by injection e with e; omega
  have H0 := hide h0
  have Hn := hide hn
  have Hr := hide hr
  have Htr := hide (show (lkE es id).getD (⟨#[]⟩, 0) = (t, r) by rw [hn]; rfl)
  have H7 := hide h7
  have H8 := hide h8
  have H9 := hide h9
  have Hs0 := hide s0
  clear h10 h11 h9 h7 s0 h0 hn hr hs
  go_enter Tryz.func87, Tryz.ntmps87
  go_wp2_with (first | (go_at_call 65; refine (there_yes id (unhide HP) (unhide H0) t r (unhide Hn) (unhide Hr)).mono ?_; rintro e w' ⟨he, hw⟩; subst he; subst hw) | (at_lookup; refine wpList_lookup_blk rfl _ _ rfl es m rfl (unhide HM0) id rfl t r (unhide Htr) ?_))
  rw [← hW0]
  clear hW0
  go_still_tail 6, (by kernel_rfl)
  change wpList _ _ _ _ _ W0.drew
  go_wp2_with (at_mapUpdate; refine wpList_update_is rfl _ _ _ _ rfl kInt (esV es) 3 132 Tryz.underlying112 Tryz.underlying3 m rfl ((unhide HM).drewN 1) id rfl (blkV (t, r + by')) rfl ?_; intro w1 HM1 HG1; have g1 := (HG1.cell_far ⟨w'.heap.size, 1, none⟩ l1 n1).trans c1)
  go_ret
  have sz0 := unhide Hs0
  have sz1 : W0.heap.size ≤ w1.heap.size := HG1.size
  have hpm : some p ≠ some m := fun e => h6 (by injection e)
  have e1 : w1.heap[p]? = W0.heap[p]? := HG1.block p (by show p < W0.heap.size; omega) hpm
  have hC1 : Chg (fun k => k = m) W0 w1 := Chg.of_grown (row := some m) ⟨HG1.os, HG1.tape, HG1.output, HG1.size, HG1.block⟩ sz1 fun k hk => by injection hk with hk; exact hk.symm
  have HS1 := (unhide HS).chg hC1 fun k hk e => hk.2.2 e
  rw [put_esV] at HM1
  exact ⟨rfl, PoolIs.turned h2 h3 h4 h5 h6 (unhide H7) (unhide H8) (unhide H9) (show w'.heap.size ≤ w1.heap.size by omega) (e1.trans (B0.block p h2)) HM1 (Chg.refl _ _) HS1, Chg.below_trans B0 (hC1.mono fun k _ hk => hk ▸ h5)⟩
end
end Go.Proofs.YtjjfdkdneibjbaaGreatDoor
/- Walk of package pool: turn, where a block is let go for good. -/
namespace Go.Proofs.YtjjfdkdneibjbaaGreatDoor
open Go.RowKit

theorem delE_putE (es : List (Int × Blk)) (k : Int) (x : Blk) : delE (putE es k x) k = delE es k := by
  unfold delE
  induction es with
  | nil => simp [putE]
  | cons p es ih =>
    unfold putE
    by_cases h : p.1 = k
    · rw [if_pos h, List.filter_cons, List.filter_cons]
      simp [h]
    · rw [if_neg h, List.filter_cons, List.filter_cons, ih]
section
variable {w : World} {G : Nat → Prop} {s : Value} {most : Int} {es : List (Int × Blk)} {bs : List (List (Int × Int))}
set_option maxHeartbeats 2000000 in
set_option maxRecDepth 100000 in
theorem turn_drop (id : Int) (t : ByteArray) (h : PoolIs w G s most es bs) (hG : ∀ k, w.heap.size ≤ k → G k) (h0 : id ≠ 0) (hn : lkE es id = some (t, 1)) (hb : t.size ≤ 1000000) (hh : hasB bs (ofI t) id) :
    Calls Tryz.prog 87 #[s, .int .i64 id, .int .i64 (-1)] w fun e w' => e = .returned (.int .i64 0) ∧ PoolIs w' G s most (delE es id) (cutB bs (ofI t) id) ∧ Chg G w w' := by
  have HP := hide h
  obtain ⟨p, m, q, rfl, h2, h3, h4, h5, h6, h7, h8, h9, h10, h11⟩ := h
  have q1 : (id == 0) = false := beq_eq_false_iff_ne.2 h0
  obtain ⟨x, hx⟩ : ∃ x, x = ofI t := ⟨_, rfl⟩
  have hxb := ofI_bd t
  rw [← hx] at hxb hh ⊢
  have hx0 := hxb.1
  have hx1 := hxb.2
  have hof : ∀ w1 : World, Calls Tryz.prog 143 #[.string t] w1 fun e w' => e = .returned (.int .u32 x) ∧ w' = w1 := fun w1 => by rw [hx]; exact pof_any t w1 hb
  obtain ⟨W0, hW0⟩ : ∃ W0, W0 = w.alloc (.cells #[.string t, .int .i64 0] 132) := ⟨_, rfl⟩
  have B0 : Below w.heap.size w W0 := by rw [hW0]; exact (Below.refl _ _).alloc (Nat.le_refl _) _
  have c0 : W0.cell? ⟨w.heap.size, 0, none⟩ = some (.string t) := by rw [hW0]; exact World.cell?_alloc_at _ _ _ _ rfl
  have c1 : W0.cell? ⟨w.heap.size, 1, none⟩ = some (.int .i64 0) := by rw [hW0]; exact World.cell?_alloc_at _ _ _ _ rfl
  have s0 : W0.heap.size = w.heap.size + 1 := by rw [hW0]; simp
  have d1 := ((bcell B0).1 p 1 h2).trans h8
  have d2 := ((bcell B0).1 p 2 h2).trans h9
  have HM0 := hide h10
  have HM := hide (h10.below B0)
  have HS := hide (h11.below B0)
  have l1 : w.heap.size < W0.drew.heap.size := by show w.heap.size < W0.heap.size; omega
  have l2 : p < W0.drew.heap.size := by show p < W0.heap.size; omega
  have n1 : some w.heap.size ≠ some m := fun e => by injection e with e; omega
  have n2 : some p ≠ some m := fun e => h6 (by injection e)
  have H0 := hide h0
  have Hn := hide hn
  have Hof := hide hof
  have Hh := hide hh
  have Htr := hide (show (lkE es id).getD (⟨#[]⟩, 0) = (t, 1) by rw [hn]; rfl)
  have H7 := hide h7
  have H8 := hide h8
  have H9 := hide h9
  have Hs0 := hide s0
  clear h10 h11 h9 h7 s0 h0 hn hx hof hxb hh
  go_enter Tryz.func87, Tryz.ntmps87
  go_wp2_with (first | (go_at_call 65; refine (there_yes id (unhide HP) (unhide H0) t 1 (unhide Hn) (by decide)).mono ?_; rintro e w' ⟨he, hw⟩; subst he; subst hw) | (at_lookup; refine wpList_lookup_blk rfl _ _ rfl es m rfl (unhide HM0) id rfl t 1 (unhide Htr) ?_))
  rw [← hW0]
  clear hW0
  go_still_tail 6, (by kernel_rfl)
  change wpList _ _ _ _ _ W0.drew
  go_wp2_with (first | (at_mapUpdate; refine wpList_update_is rfl _ _ _ _ rfl kInt (esV es) 3 132 Tryz.underlying112 Tryz.underlying3 m rfl ((unhide HM).drewN 1) id rfl (blkV (t, 0)) rfl ?_; intro w1 HM1 HG1; have g1 := (HG1.cell_far ⟨w'.heap.size, 1, none⟩ l1 n1).trans c1; have g0 := (HG1.cell_far ⟨w'.heap.size, 0, none⟩ l1 n1).trans c0; have e1 := (HG1.cell_far ⟨p, 1, none⟩ l2 n2).trans d1; have e2 := (HG1.cell_far ⟨p, 2, none⟩ l2 n2).trans d2; have l3 := Nat.lt_of_lt_of_le l1 HG1.size; have l4 := Nat.lt_of_lt_of_le l2 HG1.size) | (at_delete; refine wpList_delete_is rfl _ _ _ _ rfl kInt (put (esV es) id (blkV (t, 0))) 3 132 Tryz.underlying112 Tryz.underlying3 m rfl HM1 id rfl ?_; intro w2 HM2 HG2; have k0 := (HG2.cell_far ⟨w'.heap.size, 0, none⟩ l3 n1).trans g0; have k2 := (HG2.cell_far ⟨p, 2, none⟩ l4 n2).trans e2))
  have sz0 := unhide Hs0
  have sz1 : W0.heap.size ≤ w1.heap.size := HG1.size
  have sz2 : w1.heap.size ≤ w2.heap.size := HG2.size
  have hC1 : Chg (fun k => k = m) W0 w1 := Chg.of_grown (row := some m) ⟨HG1.os, HG1.tape, HG1.output, HG1.size, HG1.block⟩ sz1 fun k hk => by injection hk with hk; exact hk.symm
  have hC2 : Chg (fun k => k = m) w1 w2 := Chg.of_grown HG2 sz2 fun k hk => by injection hk with hk; exact hk.symm
  have hC := hC1.trans hC2
  have HS2 := hide ((unhide HS).chg hC fun k hk e => hk.2.2 e)
  rw [put_esV, del_esV, delE_putE] at HM2
  have hE2 : w2.heap[p]? = w'.heap[p]? := (hC.block p (by omega) h6).trans (B0.block p h2)
  have HE2 := hide hE2
  have HMf := hide HM2
  have HC := hide hC
  have hF : ∀ k, w2.heap.size ≤ k → G k ∧ k ≠ p ∧ k ≠ m := fun k hk => ⟨hG k (by omega), by omega, by omega⟩
  have HF := hide hF
  clear hE2 hC hC1 hC2 HM1 HM2 HG1 HG2 g0 g1 e1 e2 c0 c1 d1 d2 hF HS HM
  refine wp_region_still_tail 8 (by kernel_rfl) (by kernel_rfl) ?_
  simp only [List.take_succ_cons, List.take_zero, List.drop_succ_cons, List.drop_zero]
  repeat still_step
  still_call (unhide Hof _)
  repeat still_step
  refine wpStill_nil ?_
  change wpList _ _ _ _ _ w2.drew
  go_wp2_with (go_at_call 149; refine (cut_yesG x id (ShelfIs.drewN (unhide HS2) 1) (unhide HF) hx0 hx1 (unhide Hh)).mono ?_; rintro e w3 ⟨he, hS3, hC3⟩; subst he)
  go_ret
  refine ⟨rfl, PoolIs.turned h2 h3 h4 h5 h6 (unhide H7) (unhide H8) (unhide H9) (show w'.heap.size ≤ w2.heap.size by omega) (unhide HE2) (unhide HMf) hC3.of_drewN hS3, ?_⟩
  exact Chg.below_trans B0 (((unhide HC).mono fun k _ hk => hk ▸ h5).trans (hC3.of_drewN.mono fun k _ hk => hk.1))
end
end Go.Proofs.YtjjfdkdneibjbaaGreatDoor
/- Walks of package pool: New, Hold, Drop. -/
namespace Go.Proofs.YtjjfdkdneibjbaaGreatDoor
open Go.RowKit

section
variable {w : World} {G : Nat → Prop} {s : Value} {most : Int} {es : List (Int × Blk)} {bs : List (List (Int × Int))}
set_option maxHeartbeats 1000000 in
set_option maxRecDepth 100000 in
theorem pnew_any (most : Int) (w : World) (hG : ∀ k, w.heap.size ≤ k → G k) :
    Calls Tryz.prog 9 #[.int .i64 most] w fun e w' => ∃ p, e = .returned (.pointer (some ⟨p, 0, none⟩)) ∧ PoolIs w' G (.pointer (some ⟨p, 0, none⟩)) (min (max most 0) 60) [] (List.replicate 16 []) ∧ Below w.heap.size w w' := by
  have hmm := @run_makeMap Tryz.prog
  obtain ⟨W0, hW0⟩ : ∃ W0, W0 = w.alloc (.map #[] 0) := ⟨_, rfl⟩
  have B0 : Below w.heap.size w W0 := by rw [hW0]; exact (Below.refl _ _).alloc (Nat.le_refl _) _
  have HM0 : MapIs kInt W0 w.heap.size [] := by rw [hW0]; exact MapIs.made kInt w
  have s0 : W0.heap.size = w.heap.size + 1 := by rw [hW0]; simp
  have Hs0 := hide s0
  clear s0
  go_enter Tryz.func9, Tryz.ntmps9
  go_wp2_with fail
  rw [← hW0]
  clear hW0
  refine (new_any 16 W0).mono ?_
  rintro e w1 ⟨v, rfl, hS, HB⟩
  have hS1 : ShelfIs w1 (fun k => W0.heap.size ≤ k) v (List.replicate 16 []) := hS
  obtain ⟨q, rfl⟩ : ∃ q, v = .pointer (some ⟨q, 0, none⟩) := by
    obtain ⟨q, _, _, h, _⟩ := hS1
    exact ⟨q, h⟩
  have sz0 := unhide Hs0
  have sz1 := HB.size
  obtain ⟨W2, hW2⟩ : ∃ W2, W2 = w1.alloc (.cells #[.int .i64 (min (max most 0) 60), .map (some w.heap.size), .pointer (some ⟨q, 0, none⟩)] 116) := ⟨_, rfl⟩
  have B2 : Below w1.heap.size w1 W2 := by rw [hW2]; exact (Below.refl _ _).alloc (Nat.le_refl _) _
  have s2 : W2.heap.size = w1.heap.size + 1 := by rw [hW2]; simp
  have k0 : W2.cell? ⟨w1.heap.size, 0, none⟩ = some (.int .i64 (min (max most 0) 60)) := by rw [hW2]; exact World.cell?_alloc_at _ _ _ _ rfl
  have k1 : W2.cell? ⟨w1.heap.size, 1, none⟩ = some (.map (some w.heap.size)) := by rw [hW2]; exact World.cell?_alloc_at _ _ _ _ rfl
  have k2 : W2.cell? ⟨w1.heap.size, 2, none⟩ = some (.pointer (some ⟨q, 0, none⟩)) := by rw [hW2]; exact World.cell?_alloc_at _ _ _ _ rfl
  have hfin : PoolIs W2 G (.pointer (some ⟨w1.heap.size, 0, none⟩)) (min (max most 0) 60) [] (List.replicate 16 []) := by
    refine ⟨w1.heap.size, w.heap.size, q, rfl, by omega, by omega, hG _ (by omega), hG _ (Nat.le_refl _), by omega, k0, k1, k2, (HM0.below HB).below B2, ?_⟩
    exact ((hS1.gap (m' := W2.heap.size) B2 rfl).mono fun k hk => ⟨hG _ (by have := hk.1; omega), by have h1 := hk.1; have h2 := hk.2; omega, by have := hk.1; omega⟩)
  have Hfin := hide hfin
  have HB2 := (B0.trans (HB.mono (by omega))).trans (B2.mono (by omega))
  clear hfin k0 k1 k2 hS hS1 HM0
  go_wp2
  rw [← hW2]
  go_ret
  exact ⟨_, rfl, unhide Hfin, HB2⟩
theorem hold_of (id c : Int) (p : Nat) (P : World → Prop) (h : Calls Tryz.prog 87 #[.pointer (some ⟨p, 0, none⟩), .int .i64 id, .int .i64 (1)] w fun e w' => e = .returned (.int .i64 c) ∧ P w') :
    Calls Tryz.prog 73 #[.pointer (some ⟨p, 0, none⟩), .int .i64 id] w fun e w' => e = .returned (.int .i64 c) ∧ P w' := by
  have H := hide h
  clear h
  go_enter Tryz.func73, Tryz.ntmps73
  go_wp2_with fail
  refine (unhide H).mono ?_
  rintro e w' ⟨rfl, hp⟩
  have Hp := hide hp
  clear hp
  go_wp2
  go_ret
  exact ⟨rfl, unhide Hp⟩
theorem drop_of (id c : Int) (p : Nat) (P : World → Prop) (h : Calls Tryz.prog 87 #[.pointer (some ⟨p, 0, none⟩), .int .i64 id, .int .i64 (-1)] w fun e w' => e = .returned (.int .i64 c) ∧ P w') :
    Calls Tryz.prog 38 #[.pointer (some ⟨p, 0, none⟩), .int .i64 id] w fun e w' => e = .returned (.int .i64 c) ∧ P w' := by
  have H := hide h
  clear h
  go_enter Tryz.func38, Tryz.ntmps38
  go_wp2_with fail
  refine (unhide H).mono ?_
  rintro e w' ⟨rfl, hp⟩
  have Hp := hide hp
  clear hp
  go_wp2
  go_ret
  exact ⟨rfl, unhide Hp⟩
end
end Go.Proofs.YtjjfdkdneibjbaaGreatDoor
