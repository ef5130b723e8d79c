/- Joined texts: ShelfF, ShelfP, ShelfG. -/
import Derived.Test.YtnpgjdhigcjihaaGreatDoorPP11
import Derived.Deep.RegionWith
/- Walks of package shelf: Cut. -/
namespace Go.Proofs.YtnpgjdhigcjihaaGreatDoor
open Go.RowKit
attribute [local go_sem ↓] Go.wp_at_zero Go.wp_at_succ

/-- The buckets behind a Cut that was done. -/
def cutB (bs : List (List (Int × Int))) (x id : Int) : List (List (Int × Int)) := bs.set (bk bs x) ((bs.getD (bk bs x) []).erase (x, id))
theorem ix_pos {L : List (Int × Int)} {t : Int × Int} (h : t ∈ L) : ix L t = (L.idxOf t : Int) := by unfold ix; rw [if_pos h]
theorem erase_idx {L : List (Int × Int)} {t : Int × Int} : L.erase t = L.eraseIdx (L.idxOf t) := List.erase_eq_eraseIdx_of_idxOf rfl

set_option maxHeartbeats 400000 in
set_option maxRecDepth 100000 in
theorem cut_any {F : Nat → Prop} {s : Value} {bs : List (List (Int × Int))} (x id : Int) (w : World) (h : ShelfIs w F s bs) (h0 : 0 ≤ x) (h1 : x < 4294967296) :
    Calls Tryz.prog 72 #[s, .int .u32 x, .int .i64 id] w
      fun e w' => e = .returned (.bool (decide (hasB bs x id))) ∧ Chg F w w' ∧ (¬ hasB bs x id → Below w.heap.size w w') ∧
        ShelfIs w' (fun k => F k ∨ w.heap.size ≤ k) s (if hasB bs x id then cutB bs x id else bs) := by
  have hS := h
  obtain ⟨i0, hi, hz0, hz1, hz2⟩ := info_parts Tryz.infoTh
  obtain ⟨p, g, vs, rfl, h2, h3, h4, h5, h6, h7, h8, h9, h10, h11, h12, h13, h14⟩ := h
  obtain ⟨k, hk⟩ : ∃ k, k = bk bs x := ⟨_, rfl⟩
  have hkb : k < bs.length := by rw [hk]; exact bk_lt h8
  have hkv : k < vs.length := by omega
  have hgd : bs.getD (bk bs x) [] = bs[k] := by rw [← hk, List.getD_eq_getElem?_getD, List.getElem?_eq_getElem hkb, Option.getD_some]
  obtain ⟨L, hL⟩ : ∃ L, L = bs[k] := ⟨_, rfl⟩
  rw [← hL] at hgd
  have hat : ∀ w1 : World, ShelfIs w1 F (.pointer (some ⟨p, 0, none⟩)) bs → ∀ q : Int, q = ix L (x, id) → Calls Tryz.prog 105 #[.pointer (some ⟨p, 0, none⟩), .agg #[.int .u32 x, .int .i64 id]] w1
      fun e w' => e = .returned (.tuple #[.int .i64 k, .int .i64 q]) ∧ Below w1.heap.size w1 w' := by
    intro w1 hS1 q hq
    have := at_any x id w1 hS1 h0 h1
    rw [hgd, ← hk, ← hq] at this
    exact this
  have Hat := hide hat
  have HS := hide hS
  by_cases hm : (x, id) ∈ L
  case neg =>
    have hb : ¬ hasB bs x id := by unfold hasB; rw [hgd]; exact hm
    rw [if_neg hb, decide_eq_false hb]
    obtain ⟨q, hq⟩ : ∃ q, q = ix L (x, id) := ⟨_, rfl⟩
    have hx1 : q < 0 := by rw [hq]; exact ix_neg.2 hm
    have Hq := hide hq
    clear h12 h13 h14 h11 h7 hS hm hb hq hat hgd hk h10 hkv hL hkb h8 h9 h6 h5 h4 h3 h2
    go_enter Tryz.func72, Tryz.ntmps72
    go_wp2_with (first | (go_at_call 82; refine (none_any _ (unhide HS)).mono ?_; rintro e w' ⟨he, hw⟩; subst he; subst hw) | (go_at_call 105; refine (unhide Hat _ (unhide HS) q (unhide Hq)).mono ?_; rintro e w1 ⟨he, HB⟩; subst he))
    go_ret
    exact ⟨rfl, Chg.of_below HB, fun _ => HB, ((unhide HS).below HB).mono fun _ h => .inl h⟩
  case pos =>
    have hb : hasB bs x id := by unfold hasB; rw [hgd]; exact hm
    rw [if_pos hb, decide_eq_true hb]
    obtain ⟨i, hi'⟩ : ∃ i, i = L.idxOf (x, id) := ⟨_, rfl⟩
    have hil : i < L.length := by rw [hi']; exact List.idxOf_lt_length_of_mem hm
    have Hq := hide (show (i : Int) = ix L (x, id) by rw [hi']; exact (ix_pos hm).symm)
    have hpb : cutB bs x id = bs.set k (L.eraseIdx i) := by unfold cutB; rw [hgd, ← hk, hi', erase_idx]
    rw [hpb]
    have h12k := h12 k hkb hkv
    rw [← hL] at h12k
    obtain ⟨A, c, hv, hsl, _⟩ := h12k.sl
    rw [hv] at h12k
    have c3 : w.cell? ⟨g, k, none⟩ = some (.slice A L.length c) := by
      rw [← hv]
      simp [World.cell?, h11, hkv]
    have hfz : w.frozen? ⟨g, k, none⟩ = false := by simp [World.frozen?, h11]
    have h13k := h13 _ (List.getElem_mem hkv)
    rw [hv] at h13k
    obtain ⟨gb, hA⟩ : ∃ gb, A = some ⟨gb, 0, none⟩ := by
      rcases h12k.shape with ⟨_, h0⟩ | ⟨gb, cap, hv', _⟩
      · rw [h0] at hil; simp at hil
      · injection hv' with hv' _ _
        exact ⟨gb, hv'⟩
    subst hA
    have HL := hide hL
    have H10 := hide h10
    have H11 := hide h11
    have H12 := hide h12
    have H13 := hide h13
    have H14 := hide h14
    have Hv := hide hv
    have Hb := hide hb
    have Hi' := hide hi'
    have hlb : L.length ≤ 9223372036854775807 := by
      have h1 := hsl.2.1
      have h2 := hsl.2.2.1
      omega
    clear hS hm hb hsl hpb hv h11 h12 h13 h14 hk hat hgd h10 hL hi'
    go_enter Tryz.func72, Tryz.ntmps72
    go_wp2_with (first | (go_at_call 82; refine (none_any _ (unhide HS)).mono ?_; rintro e w' ⟨he, hw⟩; subst he; subst hw) | (go_at_call 105; refine (unhide Hat _ (unhide HS) i (unhide Hq)).mono ?_; rintro e w1 ⟨he, HB⟩; subst he))
    have hown := h12k.below HB
    have ag : some g ≠ some gb := fun e => (h13k g (by rw [e]; rfl)).2.2 rfl
    have ap : some p ≠ some gb := fun e => (h13k p (by rw [e]; rfl)).2.1 rfl
    have cp := ((bcell HB).1 p 0 h2).trans h7
    have cg := ((bcell HB).1 g k h3).trans c3
    have fg := ((bcell HB).2 g k h3).trans hfz
    have sp := Nat.lt_of_lt_of_le h2 HB.size
    have sg := Nat.lt_of_lt_of_le h3 HB.size
    have H7 := hide h7
    clear c3 h7 hfz h12k
    have HA := hide h13k
    clear h13k
    have hdel : ∀ w1 : World, Own eTh 122 w1 0 (.slice (some ⟨gb, 0, none⟩) L.length c) L → Calls Tryz.prog 106 #[.slice (some ⟨gb, 0, none⟩) L.length c, .int .i64 (i : Int), .int .i64 ((i : Int) + 1)] w1
        fun e w' => e = .returned (.slice (some ⟨gb, 0, none⟩) (L.length - 1) c) ∧ Own eTh 122 w' 0 (.slice (some ⟨gb, 0, none⟩) (L.length - 1) c) (L.eraseIdx i) ∧ w1.grownBy w' (some gb) := by
      intro w1 ho
      have := delete_any gb c 0 i (i + 1) L w1 ho hil rfl
      rw [show ((i + 1 : Nat) : Int) = (i : Int) + 1 by omega] at this
      exact this
    have hwr := hide (show IntKind.i64.wrap ((i : Int) + 1) = (i : Int) + 1 from by rw [IntKind.wrap_i64]; omega)
    have Hdel := hide hdel
    clear hdel
    go_region_with ((go_at_call 106; rw [unhide hwr]; refine (unhide Hdel w1.drew hown).mono ?_; rintro e w2 ⟨he, hown2, hgrow⟩; subst he; have cg2 := (hgrow.cell_far ⟨g, k, none⟩ sg ag).trans cg; have fg2 := (hgrow.frozen_far ⟨g, k, none⟩ sg ag).trans fg; have cp2 := (hgrow.cell_far ⟨p, 0, none⟩ sp ap).trans cp))
    all_goals
      go_wp2
      go_ret
      have hfin := put_fin h2 h3 h4 h5 h6 (unhide H7) h8 h9 (unhide H10) (unhide H11) (unhide H12) (unhide H13) (unhide H14) hkv (unhide Hv) HB (Below.refl w1.heap.size w1).drew hgrow
        (L := L.eraseIdx i) (v' := .slice (some ⟨gb, 0, none⟩) (L.length - 1) c) hown2
        (fun j hj => .inl hj)
      exact ⟨rfl, hfin.1, fun h => absurd (unhide Hb) h, hfin.2⟩
end Go.Proofs.YtnpgjdhigcjihaaGreatDoor
/- Buckets as plain lists: what Find tells, how many there are; what Put and Cut do to them. -/
namespace Go.Proofs.YtnpgjdhigcjihaaGreatDoor

/-- What Find tells. -/
def findL (bs : List (List (Int × Int))) (x : Int) : List Int := (((bs.getD (bk bs x) []).filter fun t => t.1 == x).map fun t => t.2).mergeSort fun a b => decide (a ≤ b)
/-- How many there are. -/
def lenB (bs : List (List (Int × Int))) : Nat := (bs.map List.length).sum
theorem bk_set {bs : List (List (Int × Int))} {x : Int} {k : Nat} {L : List (Int × Int)} : bk (bs.set k L) x = bk bs x := by unfold bk; rw [List.length_set]
theorem bk_putB {bs : List (List (Int × Int))} {x y id : Int} : bk (putB bs x id) y = bk bs y := bk_set
theorem bk_cutB {bs : List (List (Int × Int))} {x y id : Int} : bk (cutB bs x id) y = bk bs y := bk_set
theorem getD_set_self {bs : List (List (Int × Int))} {k : Nat} {L : List (Int × Int)} (h : k < bs.length) : (bs.set k L).getD k [] = L := by
  rw [List.getD_eq_getElem?_getD, List.getElem?_set_self h, Option.getD_some]
theorem set_getD_self {bs : List (List (Int × Int))} {k : Nat} : bs.set k (bs.getD k []) = bs := by
  apply List.ext_getElem?
  intro j
  rw [List.getElem?_set]
  by_cases h : k = j
  · subst h
    rw [if_pos rfl]
    by_cases hk : k < bs.length
    · rw [if_pos hk, List.getD_eq_getElem?_getD, List.getElem?_eq_getElem hk]; rfl
    · rw [if_neg hk, List.getElem?_eq_none (by omega)]
  · rw [if_neg h]
theorem mem_findL {bs : List (List (Int × Int))} {x id : Int} : id ∈ findL bs x ↔ hasB bs x id := by
  unfold findL hasB
  rw [List.mem_mergeSort, List.mem_map]
  constructor
  · rintro ⟨⟨a, b⟩, h, rfl⟩
    obtain ⟨h1, h2⟩ := List.mem_filter.1 h
    simp only [beq_iff_eq] at h2
    subst h2
    exact h1
  · intro h
    exact ⟨(x, id), List.mem_filter.2 ⟨h, by simp⟩, rfl⟩
theorem sum_set {l : List Nat} {k n : Nat} (h : k < l.length) : (l.set k n).sum + l[k] = l.sum + n := by
  induction l generalizing k with
  | nil => simp at h
  | cons a l ih =>
    cases k with
    | zero => simp; omega
    | succ k =>
      simp only [List.set_cons_succ, List.sum_cons, List.getElem_cons_succ]
      have := ih (k := k) (by simpa using h)
      omega
theorem lenB_set {bs : List (List (Int × Int))} {k : Nat} {L : List (Int × Int)} (h : k < bs.length) : lenB (bs.set k L) + (bs.getD k []).length = lenB bs + L.length := by
  unfold lenB
  rw [List.map_set]
  have := sum_set (l := bs.map List.length) (k := k) (n := L.length) (by simpa using h)
  rw [List.getD_eq_getElem?_getD, List.getElem?_eq_getElem h, Option.getD_some]
  simpa using this
theorem le_lenB {bs : List (List (Int × Int))} (k : Nat) : (bs.getD k []).length ≤ lenB bs := by
  by_cases h : k < bs.length
  · have := lenB_set (bs := bs) (k := k) (L := []) h
    rw [List.length_nil] at this; omega
  · rw [List.getD_eq_getElem?_getD, List.getElem?_eq_none (by omega)]; simp
theorem lenB_putB {bs : List (List (Int × Int))} (x id : Int) (h : 0 < bs.length) : lenB (putB bs x id) = lenB bs + 1 := by
  have := lenB_set (bs := bs) (k := bk bs x) (L := bs.getD (bk bs x) [] ++ [(x, id)]) (bk_lt h)
  unfold putB
  rw [List.length_append, List.length_singleton] at this
  omega
theorem lenB_cutB {bs : List (List (Int × Int))} {x id : Int} (h : 0 < bs.length) (hm : hasB bs x id) : lenB (cutB bs x id) + 1 = lenB bs := by
  have := lenB_set (bs := bs) (k := bk bs x) (L := (bs.getD (bk bs x) []).erase (x, id)) (bk_lt h)
  unfold cutB
  have h2 : 0 < (bs.getD (bk bs x) []).length := List.length_pos_of_mem hm
  rw [List.length_erase_of_mem hm] at this
  omega
theorem hasB_putB {bs : List (List (Int × Int))} (x id : Int) (h : 0 < bs.length) : hasB (putB bs x id) x id := by
  unfold hasB
  rw [bk_putB]
  unfold putB
  rw [getD_set_self (bk_lt h)]
  simp
theorem cutB_putB {bs : List (List (Int × Int))} {x id : Int} (h : 0 < bs.length) (hm : ¬ hasB bs x id) : cutB (putB bs x id) x id = bs := by
  unfold cutB
  rw [bk_putB]
  unfold putB
  rw [getD_set_self (bk_lt h), List.set_set, List.erase_append_right _ hm]
  simp only [List.erase_cons_head, List.append_nil]
  exact set_getD_self
/-- No bucket has a thing twice. -/
def NdB (bs : List (List (Int × Int))) : Prop := ∀ k, (bs.getD k []).Nodup
theorem NdB.set {bs : List (List (Int × Int))} (h : NdB bs) {k : Nat} {L : List (Int × Int)} (hL : L.Nodup) : NdB (bs.set k L) := by
  intro j
  rw [List.getD_eq_getElem?_getD, List.getElem?_set]
  by_cases hk : k = j
  · rw [if_pos hk]
    by_cases hl : k < bs.length
    · rw [if_pos hl]; exact hL
    · rw [if_neg hl]; exact List.nodup_nil
  · rw [if_neg hk, ← List.getD_eq_getElem?_getD]; exact h j
theorem NdB.putB {bs : List (List (Int × Int))} (h : NdB bs) {x id : Int} (hm : ¬ hasB bs x id) : NdB (putB bs x id) := by
  refine h.set ?_
  rw [List.nodup_append]
  refine ⟨h _, by simp, ?_⟩
  intro a ha b hb e
  simp only [List.mem_singleton] at hb
  subst e hb
  exact hm ha
theorem NdB.nil (n : Nat) : NdB (List.replicate n []) := by
  intro k
  rw [List.getD_eq_getElem?_getD, List.getElem?_replicate]
  by_cases h : k < n <;> simp [h]
theorem not_hasB_cutB {bs : List (List (Int × Int))} {x id : Int} (h : 0 < bs.length) (hn : NdB bs) : ¬ hasB (cutB bs x id) x id := by
  unfold hasB
  rw [bk_cutB]
  unfold cutB
  rw [getD_set_self (bk_lt h)]
  exact List.Nodup.not_mem_erase (hn _)
theorem sort_perm {l m : List Int} (h : l.Perm m) : (l.mergeSort fun a b => decide (a ≤ b)) = m.mergeSort fun a b => decide (a ≤ b) := by
  have tr : ∀ a b c : Int, decide (a ≤ b) = true → decide (b ≤ c) = true → decide (a ≤ c) = true := by simp; omega
  have to : ∀ a b : Int, (decide (a ≤ b) || decide (b ≤ a)) = true := by simp; omega
  refine List.Perm.eq_of_pairwise (le := fun a b : Int => a ≤ b) (fun a b _ _ h1 h2 => Int.le_antisymm h1 h2) ?_ ?_ ?_
  · exact (List.pairwise_mergeSort tr to l).imp (by simp)
  · exact (List.pairwise_mergeSort tr to m).imp (by simp)
  · exact ((List.mergeSort_perm l _).trans h).trans (List.mergeSort_perm m _).symm
theorem findL_again {bs : List (List (Int × Int))} {x id : Int} (h : 0 < bs.length) (hm : hasB bs x id) : findL (putB (cutB bs x id) x id) x = findL bs x := by
  unfold findL
  apply sort_perm
  apply List.Perm.map
  apply List.Perm.filter
  rw [bk_putB, bk_cutB]
  unfold putB
  rw [bk_cutB, getD_set_self (by unfold cutB; rw [List.length_set]; exact bk_lt h)]
  unfold cutB
  rw [getD_set_self (bk_lt h)]
  exact (List.perm_append_comm (l₁ := (bs.getD (bk bs x) []).erase (x, id)) (l₂ := [(x, id)])).trans (List.perm_cons_erase hm).symm
/-- What one Put leaves. -/
def putA (bs : List (List (Int × Int))) (x id : Int) : List (List (Int × Int)) := if hasB bs x id then bs else putB bs x id
theorem putA_length {bs : List (List (Int × Int))} {x id : Int} : (putA bs x id).length = bs.length := by
  unfold putA putB
  split
  · rfl
  · rw [List.length_set]
theorem cutB_length {bs : List (List (Int × Int))} {x id : Int} : (cutB bs x id).length = bs.length := by
  unfold cutB
  rw [List.length_set]
theorem NdB.putA {bs : List (List (Int × Int))} (h : NdB bs) (x id : Int) : NdB (putA bs x id) := by
  unfold Go.Proofs.YtnpgjdhigcjihaaGreatDoor.putA
  split
  · exact h
  · exact h.putB (by assumption)
theorem lenB_putA {bs : List (List (Int × Int))} (x id : Int) (h : 0 < bs.length) : lenB (putA bs x id) ≤ lenB bs + 1 := by
  unfold putA
  split
  · omega
  · rw [lenB_putB _ _ h]; omega
end Go.Proofs.YtnpgjdhigcjihaaGreatDoor
/- Walks of package shelf: New. -/
namespace Go.Proofs.YtnpgjdhigcjihaaGreatDoor
open Go.RowKit

/-- So many buckets. -/
def nB (b : Int) : Nat := (min (max b 1) 100).toNat

theorem Tryz.infoBk : (Tryz.prog.info? 119).map (fun i => (i.zero, i.size, i.bytes)) = some (some (.slice none 0 0), 1, 24) := by kernel_rfl
theorem shelf_made (w : World) (c : Int) (h0 : 1 ≤ c) (h1 : c ≤ 100) :
    ∃ W, (Instr.makeSlice 98 (.int .i64 c) (.int .i64 c)).run Tryz.prog w = .ok (.slice (some ⟨w.heap.size, 0, none⟩) c.toNat c.toNat) W ∧ Below w.heap.size w W ∧ W.heap.size = w.heap.size + 1 ∧
      ShelfIs (W.alloc (.cells #[.slice (some ⟨w.heap.size, 0, none⟩) c.toNat c.toNat] 100)) (fun k => w.heap.size ≤ k) (.pointer (some ⟨w.heap.size + 1, 0, none⟩)) (List.replicate c.toNat []) := by
  obtain ⟨i0, hi, hz0, hz1, hz2⟩ := info_parts Tryz.infoBk
  have hr := run_makeSlice (P := Tryz.prog) (w := w) 98 119 i0 _ Tryz.underlying98 hi hz0 .i64 .i64 c c (by omega) (Int.le_refl _) (by rw [hz1]; omega) (by rw [hz2]; omega) (by omega)
  rw [hz1, Nat.mul_one] at hr
  refine ⟨_, hr, (Below.refl _ _).alloc (Nat.le_refl _) _, by simp, w.heap.size + 1, w.heap.size, List.replicate c.toNat (.slice none 0 0), rfl, by simp, by simp; omega, by omega, Nat.le_refl _, by omega, ?_, by simp; omega, by simp; omega, by simp, ?_, ?_, ?_, ?_⟩
  · simp only [List.length_replicate]
    simp
  · have hm : (madeCells (Value.slice none 0 0).cells c.toNat) = (List.replicate c.toNat (Value.slice none 0 0)).toArray := by
      apply Array.ext_getElem?
      intro k
      by_cases hk : k < c.toNat
      · simp [madeCells, Value.cells, hk, Nat.mod_one]
      · simp [madeCells, Value.cells, hk, Nat.mod_one]
    rw [hm]
    rw [Below.heap_alloc _ _ _ (by simp), heap_alloc_new]
  · intro i h h'
    simp only [List.getElem_replicate]
    exact Own.nil _ _ _ _
  · intro v hv k hk
    rw [List.eq_of_mem_replicate hv] at hk
    simp [Value.ownBlock] at hk
  · intro i j h h' _ k hk
    simp [Value.ownBlock] at hk
set_option maxHeartbeats 1000000 in
set_option maxRecDepth 100000 in
theorem new_any (b : Int) (w : World) :
    Calls Tryz.prog 24 #[.int .i64 b] w fun e w' => ∃ v, e = .returned v ∧ ShelfIs w' (fun k => w.heap.size ≤ k) v (List.replicate (nB b) []) ∧ Below w.heap.size w w' := by
  have hc : (b < 1 ∧ nB b = (1 : Int).toNat) ∨ ((1 ≤ b ∧ b ≤ 100) ∧ nB b = b.toNat) ∨ (100 < b ∧ nB b = (100 : Int).toNat) := by unfold nB; omega
  rcases hc with ⟨h, hn⟩ | ⟨⟨h, h'⟩, hn⟩ | ⟨h, hn⟩
  · obtain ⟨W, hr, HB, hs, hS⟩ := shelf_made w 1 (by omega) (by omega)
    rw [hn]
    have HS := hide hS
    clear hn hS
    go_enter Tryz.func24, Tryz.ntmps24
    go_wp2
    go_ret
    exact ⟨_, rfl, unhide HS, HB.alloc (by omega) _⟩
  · obtain ⟨W, hr, HB, hs, hS⟩ := shelf_made w b (by omega) (by omega)
    rw [hn]
    have HS := hide hS
    clear hn hS
    go_enter Tryz.func24, Tryz.ntmps24
    go_wp2
    go_ret
    exact ⟨_, rfl, unhide HS, HB.alloc (by omega) _⟩
  · obtain ⟨W, hr, HB, hs, hS⟩ := shelf_made w 100 (by omega) (by omega)
    rw [hn]
    have HS := hide hS
    clear hn hS
    go_enter Tryz.func24, Tryz.ntmps24
    go_wp2
    go_ret
    exact ⟨_, rfl, unhide HS, HB.alloc (by omega) _⟩
end Go.Proofs.YtnpgjdhigcjihaaGreatDoor
