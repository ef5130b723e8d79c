/- Joined texts: ShelfP, Sort, ShelfI, ShelfG, ShelfJ, PoolA, Print. -/
import Derived.Test.YtjjfdkdneibjbaaGreatDoorJw09
import Derived.Test.YtjjfdkdneibjbaaGreatDoorJw02
import Derived.Test.YtjjfdkdneibjbaaGreatDoorLaid
import Derived.Sort.OwnSortedInts
import Derived.Test.YtjjfdkdneibjbaaGreatDoorJw01
/- Buckets as plain lists: what Find tells, how many there are; what Put and Cut do to them. -/
namespace Go.Proofs.YtjjfdkdneibjbaaGreatDoor

/-- What Find tells. -/
def findL (bs : List (List (Int × Int))) (x : Int) : List Int := (((bs.getD (bk bs x) []).filter fun t => t.1 == x).map fun t => t.2).mergeSort fun a b => decide (a ≤ b)
/-- How many there are. -/
def lenB (bs : List (List (Int × Int))) : Nat := (bs.map List.length).sum
theorem bk_set {bs : List (List (Int × Int))} {x : Int} {k : Nat} {L : List (Int × Int)} : bk (bs.set k L) x = bk bs x := by unfold bk; rw [List.length_set]
theorem bk_putB {bs : List (List (Int × Int))} {x y id : Int} : bk (putB bs x id) y = bk bs y := bk_set
theorem bk_cutB {bs : List (List (Int × Int))} {x y id : Int} : bk (cutB bs x id) y = bk bs y := bk_set
theorem getD_set_self {bs : List (List (Int × Int))} {k : Nat} {L : List (Int × Int)} (h : k < bs.length) : (bs.set k L).getD k [] = L := by
  rw [List.getD_eq_getElem?_getD, List.getElem?_set_self h, Option.getD_some]
theorem set_getD_self {bs : List (List (Int × Int))} {k : Nat} : bs.set k (bs.getD k []) = bs := by
  apply List.ext_getElem?
  intro j
  rw [List.getElem?_set]
  by_cases h : k = j
  · subst h
    rw [if_pos rfl]
    by_cases hk : k < bs.length
    · rw [if_pos hk, List.getD_eq_getElem?_getD, List.getElem?_eq_getElem hk]; rfl
    · rw [if_neg hk, List.getElem?_eq_none (by omega)]
  · rw [if_neg h]
theorem mem_findL {bs : List (List (Int × Int))} {x id : Int} : id ∈ findL bs x ↔ hasB bs x id := by
  unfold findL hasB
  rw [List.mem_mergeSort, List.mem_map]
  constructor
  · rintro ⟨⟨a, b⟩, h, rfl⟩
    obtain ⟨h1, h2⟩ := List.mem_filter.1 h
    simp only [beq_iff_eq] at h2
    subst h2
    exact h1
  · intro h
    exact ⟨(x, id), List.mem_filter.2 ⟨h, by simp⟩, rfl⟩
theorem sum_set {l : List Nat} {k n : Nat} (h : k < l.length) : (l.set k n).sum + l[k] = l.sum + n := by
  induction l generalizing k with
  | nil => simp at h
  | cons a l ih =>
    cases k with
    | zero => simp; omega
    | succ k =>
      simp only [List.set_cons_succ, List.sum_cons, List.getElem_cons_succ]
      have := ih (k := k) (by simpa using h)
      omega
theorem lenB_set {bs : List (List (Int × Int))} {k : Nat} {L : List (Int × Int)} (h : k < bs.length) : lenB (bs.set k L) + (bs.getD k []).length = lenB bs + L.length := by
  unfold lenB
  rw [List.map_set]
  have := sum_set (l := bs.map List.length) (k := k) (n := L.length) (by simpa using h)
  rw [List.getD_eq_getElem?_getD, List.getElem?_eq_getElem h, Option.getD_some]
  simpa using this
theorem le_lenB {bs : List (List (Int × Int))} (k : Nat) : (bs.getD k []).length ≤ lenB bs := by
  by_cases h : k < bs.length
  · have := lenB_set (bs := bs) (k := k) (L := []) h
    rw [List.length_nil] at this; omega
  · rw [List.getD_eq_getElem?_getD, List.getElem?_eq_none (by omega)]; simp
theorem lenB_putB {bs : List (List (Int × Int))} (x id : Int) (h : 0 < bs.length) : lenB (putB bs x id) = lenB bs + 1 := by
  have := lenB_set (bs := bs) (k := bk bs x) (L := bs.getD (bk bs x) [] ++ [(x, id)]) (bk_lt h)
  unfold putB
  rw [List.length_append, List.length_singleton] at this
  omega
theorem lenB_cutB {bs : List (List (Int × Int))} {x id : Int} (h : 0 < bs.length) (hm : hasB bs x id) : lenB (cutB bs x id) + 1 = lenB bs := by
  have := lenB_set (bs := bs) (k := bk bs x) (L := (bs.getD (bk bs x) []).erase (x, id)) (bk_lt h)
  unfold cutB
  have h2 : 0 < (bs.getD (bk bs x) []).length := List.length_pos_of_mem hm
  rw [List.length_erase_of_mem hm] at this
  omega
theorem hasB_putB {bs : List (List (Int × Int))} (x id : Int) (h : 0 < bs.length) : hasB (putB bs x id) x id := by
  unfold hasB
  rw [bk_putB]
  unfold putB
  rw [getD_set_self (bk_lt h)]
  simp
theorem cutB_putB {bs : List (List (Int × Int))} {x id : Int} (h : 0 < bs.length) (hm : ¬ hasB bs x id) : cutB (putB bs x id) x id = bs := by
  unfold cutB
  rw [bk_putB]
  unfold putB
  rw [getD_set_self (bk_lt h), List.set_set, List.erase_append_right _ hm]
  simp only [List.erase_cons_head, List.append_nil]
  exact set_getD_self
/-- No bucket has a thing twice. -/
def NdB (bs : List (List (Int × Int))) : Prop := ∀ k, (bs.getD k []).Nodup
theorem NdB.set {bs : List (List (Int × Int))} (h : NdB bs) {k : Nat} {L : List (Int × Int)} (hL : L.Nodup) : NdB (bs.set k L) := by
  intro j
  rw [List.getD_eq_getElem?_getD, List.getElem?_set]
  by_cases hk : k = j
  · rw [if_pos hk]
    by_cases hl : k < bs.length
    · rw [if_pos hl]; exact hL
    · rw [if_neg hl]; exact List.nodup_nil
  · rw [if_neg hk, ← List.getD_eq_getElem?_getD]; exact h j
theorem NdB.putB {bs : List (List (Int × Int))} (h : NdB bs) {x id : Int} (hm : ¬ hasB bs x id) : NdB (putB bs x id) := by
  refine h.set ?_
  rw [List.nodup_append]
  refine ⟨h _, by simp, ?_⟩
  intro a ha b hb e
  simp only [List.mem_singleton] at hb
  subst e hb
  exact hm ha
theorem NdB.nil (n : Nat) : NdB (List.replicate n []) := by
  intro k
  rw [List.getD_eq_getElem?_getD, List.getElem?_replicate]
  by_cases h : k < n <;> simp [h]
theorem not_hasB_cutB {bs : List (List (Int × Int))} {x id : Int} (h : 0 < bs.length) (hn : NdB bs) : ¬ hasB (cutB bs x id) x id := by
  unfold hasB
  rw [bk_cutB]
  unfold cutB
  rw [getD_set_self (bk_lt h)]
  exact List.Nodup.not_mem_erase (hn _)
theorem sort_perm {l m : List Int} (h : l.Perm m) : (l.mergeSort fun a b => decide (a ≤ b)) = m.mergeSort fun a b => decide (a ≤ b) := by
  have tr : ∀ a b c : Int, decide (a ≤ b) = true → decide (b ≤ c) = true → decide (a ≤ c) = true := by simp; omega
  have to : ∀ a b : Int, (decide (a ≤ b) || decide (b ≤ a)) = true := by simp; omega
  refine List.Perm.eq_of_pairwise (le := fun a b : Int => a ≤ b) (fun a b _ _ h1 h2 => Int.le_antisymm h1 h2) ?_ ?_ ?_
  · exact (List.pairwise_mergeSort tr to l).imp (by simp)
  · exact (List.pairwise_mergeSort tr to m).imp (by simp)
  · exact ((List.mergeSort_perm l _).trans h).trans (List.mergeSort_perm m _).symm
theorem findL_again {bs : List (List (Int × Int))} {x id : Int} (h : 0 < bs.length) (hm : hasB bs x id) : findL (putB (cutB bs x id) x id) x = findL bs x := by
  unfold findL
  apply sort_perm
  apply List.Perm.map
  apply List.Perm.filter
  rw [bk_putB, bk_cutB]
  unfold putB
  rw [bk_cutB, getD_set_self (by unfold cutB; rw [List.length_set]; exact bk_lt h)]
  unfold cutB
  rw [getD_set_self (bk_lt h)]
  exact (List.perm_append_comm (l₁ := (bs.getD (bk bs x) []).erase (x, id)) (l₂ := [(x, id)])).trans (List.perm_cons_erase hm).symm
/-- What one Put leaves. -/
def putA (bs : List (List (Int × Int))) (x id : Int) : List (List (Int × Int)) := if hasB bs x id then bs else putB bs x id
theorem putA_length {bs : List (List (Int × Int))} {x id : Int} : (putA bs x id).length = bs.length := by
  unfold putA putB
  split
  · rfl
  · rw [List.length_set]
theorem cutB_length {bs : List (List (Int × Int))} {x id : Int} : (cutB bs x id).length = bs.length := by
  unfold cutB
  rw [List.length_set]
theorem NdB.putA {bs : List (List (Int × Int))} (h : NdB bs) (x id : Int) : NdB (putA bs x id) := by
  unfold Go.Proofs.YtjjfdkdneibjbaaGreatDoor.putA
  split
  · exact h
  · exact h.putB (by assumption)
theorem lenB_putA {bs : List (List (Int × Int))} (x id : Int) (h : 0 < bs.length) : lenB (putA bs x id) ≤ lenB bs + 1 := by
  unfold putA
  split
  · omega
  · rw [lenB_putB _ _ h]; omega
end Go.Proofs.YtjjfdkdneibjbaaGreatDoor
/- slices.Sort at []int, by the library's contract, over a row of the call's own. -/
namespace Go.Proofs.YtjjfdkdneibjbaaGreatDoor
open Go.RowKit

theorem sort_any {w : World} {base : Nat} {v : Value} {L : List Int} (h : Own eI 3 w base v L) (hl : L.length < 4611686018427387904) :
    Calls Tryz.prog 139 #[v] w fun e w' => e = .returned (.tuple #[]) ∧ Own eI 3 w' base v (L.mergeSort fun a b => decide (a ≤ b)) ∧ w.grownBy w' v.ownBlock := by
  obtain ⟨h1, h2⟩ := id h
  rcases h2 with ⟨rfl, h2⟩ | ⟨g, cap, cur, rfl, hg, hh, hnc, hm, hs, ht⟩
  · obtain rfl : L = [] := List.eq_nil_of_length_eq_zero h2
    refine (Tryz.slices_Sort_int_none none 0 w).mono ?_
    rintro e w' ⟨rfl, rfl⟩
    refine ⟨rfl, ?_, World.grownBy.refl _ _⟩
    rw [List.mergeSort_nil]
    exact Own.nil _ _ _ _
  · have hz : eI.sz = 1 := rfl
    have ht' : cur.toList.take L.length = L.map (Value.int .i64) := by rw [← flat_ints, ← ht, hz, Nat.mul_one]
    refine (Tryz.slices_Sort_int g 0 cap L w (holds_of_blockI hh ht') (Array.getElem?_eq_some_iff.1 hh).1 hl).mono ?_
    rintro e w' ⟨rfl, n, os, rfl⟩
    refine ⟨rfl, ?_, grownBy_sortedI _⟩
    unfold Own
    rw [flat_ints, List.length_mergeSort]
    exact ownsRow_sortedI (List.length_mergeSort _) hg hh hnc hm (by rw [hs, hz])
end Go.Proofs.YtjjfdkdneibjbaaGreatDoor
/- Walk of package shelf: Find. -/
namespace Go.Proofs.YtjjfdkdneibjbaaGreatDoor
open Go.RowKit

/-- The numbers of a bucket under a fingerprint, as they stand. -/
def foundL (L : List (Int × Int)) (x : Int) : List Int := (L.filter fun t => t.1 == x).map fun t => t.2
theorem foundL_len (L : List (Int × Int)) (x : Int) : (foundL L x).length ≤ L.length := by
  unfold foundL
  rw [List.length_map]
  exact List.length_filter_le _ _
theorem foundL_hit {L : List (Int × Int)} {x : Int} {k : Nat} (h : k < L.length) (hx : L[k].1 = x) : foundL (L.take (k + 1)) x = foundL (L.take k) x ++ [L[k].2] := by
  unfold foundL
  rw [List.take_succ_eq_append_getElem h, List.filter_append, List.map_append]
  simp [hx]
theorem foundL_miss {L : List (Int × Int)} {x : Int} {k : Nat} (h : k < L.length) (hx : L[k].1 ≠ x) : foundL (L.take (k + 1)) x = foundL (L.take k) x := by
  unfold foundL
  rw [List.take_succ_eq_append_getElem h, List.filter_append, List.map_append]
  simp [hx]

set_option maxHeartbeats 2000000 in
set_option maxRecDepth 100000 in
theorem find_any {F : Nat → Prop} {s : Value} {bs : List (List (Int × Int))} (x : Int) (w : World) (h : ShelfIs w F s bs) (h0 : 0 ≤ x) (h1 : x < 4294967296) (hlen : (bs.getD (bk bs x) []).length ≤ 1000000000) :
    Calls Tryz.prog 142 #[s, .int .u32 x] w
      fun e w' => ∃ v, e = .returned v ∧ Own eI 3 w' w.heap.size v (findL bs x) ∧ Below w.heap.size w w' := by
  have hS := h
  obtain ⟨i0, hi, hz0, hz1, hz2⟩ := info_parts Tryz.infoIn
  obtain ⟨p, g, vs, rfl, h2, h3, h4, h5, h6, h7, h8, h9, h10, h11, h12, h13, h14⟩ := h
  obtain ⟨k, hk⟩ : ∃ k, k = bk bs x := ⟨_, rfl⟩
  have hkb : k < bs.length := by rw [hk]; exact bk_lt h8
  have hkv : k < vs.length := by omega
  have hxk : x % (bs.length : Int) = (k : Int) := by rw [hk]; exact bk_eq h8
  have hgd : bs.getD (bk bs x) [] = bs[k] := by rw [← hk, List.getD_eq_getElem?_getD, List.getElem?_eq_getElem hkb, Option.getD_some]
  obtain ⟨L, hL⟩ : ∃ L, L = bs[k] := ⟨_, rfl⟩
  rw [hgd, ← hL] at hlen
  have hfl : findL bs x = (foundL L x).mergeSort fun a b => decide (a ≤ b) := by unfold findL foundL; rw [hgd, hL]
  rw [hfl]
  obtain ⟨A, c, hv, hsl, _⟩ := (h12 k hkb hkv).sl
  rw [← hL] at hv hsl
  have c3 : w.cell? ⟨g, k, none⟩ = some (.slice A L.length c) := by
    rw [← hv]
    simp [World.cell?, h11, hkv]
  have hc1 := hsl.2.1
  have hc2 := hsl.2.2.1
  have HR := hide hsl.2.2.2
  have HS := hide hS
  have hbk : ∀ w1 : World, Calls Tryz.prog 184 #[.int .u32 x, .int .i64 bs.length] w1 fun e w' => e = .returned (.int .i64 (k : Int)) ∧ w' = w1 := by
    intro w1
    have := bucket_any x bs.length w1 h0 h1 (by omega) (by omega)
    rw [hxk] at this
    exact this
  have Hbk := hide hbk
  clear hbk h12 h13 h14 h11 h10 hS hk hxk hgd hfl hv hsl hL
  go_enter Tryz.func142, Tryz.ntmps142
  go_wp2_with (go_at_call 183; refine (none_any _ (unhide HS)).mono ?_; rintro e w' ⟨he, hw⟩; subst he; subst hw)
  go_quiet ((go_at_call 184; refine Calls.quiet_of_same (unhide Hbk _)))
  go_wp2_with fail
  go_loopw [5, 24] (fun v i wr => ∃ j : Nat, j ≤ L.length ∧ i = .int .i64 j ∧ (∃ A n c, v = .slice A n c ∧ Own eI 3 wr w'.heap.size (.slice A n c) (foundL (L.take j) x)) ∧ Below w'.heap.size w' wr)
    (fun _ i _ => L.length - (intOf i).toNat)
  case atStart => exact ⟨0, Nat.zero_le _, rfl, ⟨none, 0, 0, rfl, Own.nil _ _ _ _⟩, below_drewN (Below.refl _ _) _⟩
  case round =>
    obtain ⟨j, hj, rfl, ⟨Av, nv, cv, rfl, hown⟩, HB⟩ := hrel
    by_cases hlt : j < L.length
    · obtain ⟨b, off, hA', hb, hr⟩ := unhide HR (by omega)
      subst hA'
      have x0 : wr.cell? ⟨b, off + j * 2, none⟩ = some (.int .u32 L[j].1) := by rw [(bcell HB).1 _ _ hb]; simpa [eTh] using hr j hlt 0 (by decide)
      have x1 : wr.cell? ⟨b, off + j * 2 + 1, none⟩ = some (.int .i64 L[j].2) := by rw [(bcell HB).1 _ _ hb]; simpa [eTh] using hr j hlt 1 (by decide)
      have hfle : (foundL (L.take j) x).length ≤ j := Nat.le_trans (foundL_len _ _) (by rw [List.length_take]; omega)
      have Hfle := hide hfle
      clear hr hfle
      by_cases he : L[j].1 = x
      · have Hhit := hide (foundL_hit hlt he)
        obtain ⟨y, hy⟩ : ∃ y, y = L[j].2 := ⟨_, rfl⟩
        rw [he] at x0
        rw [← hy] at x1
        have Hy := hide hy
        have q1 : (x == x) = true := beq_self_eq_true x
        clear he hy
        go_wp2_with (at_builtin; go_loud (refine wpList_append_one eI rfl _ _ _ rfl w'.heap.size 3 i0 (.int .i64 0) 8 Tryz.underlying52 hi hz0 hz1 hz2 rfl (by decide) _ (foundL (L.take j) x) rfl _ (hown.alloc _) y #[.int .i64 y] rfl (by simp [Act.eval]) (one_int _) ?c3 ?c4 ?c5 ?_))
        case c3 => have := unhide Hfle; unfold maxLen; omega
        case c4 => have := unhide Hfle; omega
        case c5 => have := HB.size; simp; omega
        intro v1 w1 hown1 hgr hloc
        have hb1 := (HB.alloc HB.size (.cells #[.int .u32 x, .int .i64 y] 234)).alloc (by have := HB.size; simp; omega) (.cells #[.int .i64 y] 3)
        have B2 : Below w'.heap.size w' w1 := hb1.grown hgr hb1.size fun j hj => (hown.lt j hj).1
        obtain ⟨A1, c1, hv1, _, _⟩ := hown1.sl
        subst hv1
        have Hown1 := hide hown1
        clear hgr hloc hb1 hown HB x0 x1 hown1
        go_wp2
        go_roundw
        case rel => exact ⟨j + 1, by omega, by go_num, ⟨A1, _, c1, rfl, by rw [unhide Hhit, ← unhide Hy]; exact unhide Hown1⟩, B2⟩
        case measure => simp [intOf]; omega
      · have Hmiss := hide (foundL_miss hlt he)
        obtain ⟨z, hz⟩ : ∃ z, z = L[j].1 := ⟨_, rfl⟩
        rw [← hz] at x0 he
        have q1 : (z == x) = false := beq_eq_false_iff_ne.2 he
        have Hz := hide hz
        clear hz
        go_wp2
        go_roundw
        case rel => exact ⟨j + 1, by omega, by go_num, ⟨Av, nv, cv, rfl, by rw [unhide Hmiss]; exact hown.alloc _⟩, HB.alloc HB.size _⟩
        case measure => simp [intOf]; omega
    · obtain rfl : j = L.length := by omega
      rw [List.take_length] at hown
      have hfle := foundL_len L x
      go_wp2_with fail
      refine (sort_any hown (by omega)).mono ?_
      rintro e w1 ⟨rfl, hown1, hgr⟩
      have B2 : Below w'.heap.size w' w1 := HB.grown hgr HB.size fun j hj => (hown.lt j hj).1
      go_wp2
      go_ret
      exact ⟨_, rfl, hown1, B2⟩
end Go.Proofs.YtjjfdkdneibjbaaGreatDoor
/- Walks of package shelf: New. -/
namespace Go.Proofs.YtjjfdkdneibjbaaGreatDoor
open Go.RowKit

/-- So many buckets. -/
def nB (b : Int) : Nat := (min (max b 1) 100).toNat

theorem Tryz.infoBk : (Tryz.prog.info? 231).map (fun i => (i.zero, i.size, i.bytes)) = some (some (.slice none 0 0), 1, 24) := by kernel_rfl
theorem shelf_made (w : World) (c : Int) (h0 : 1 ≤ c) (h1 : c ≤ 100) :
    ∃ W, (Instr.makeSlice 170 (.int .i64 c) (.int .i64 c)).run Tryz.prog w = .ok (.slice (some ⟨w.heap.size, 0, none⟩) c.toNat c.toNat) W ∧ Below w.heap.size w W ∧ W.heap.size = w.heap.size + 1 ∧
      ShelfIs (W.alloc (.cells #[.slice (some ⟨w.heap.size, 0, none⟩) c.toNat c.toNat] 172)) (fun k => w.heap.size ≤ k) (.pointer (some ⟨w.heap.size + 1, 0, none⟩)) (List.replicate c.toNat []) := by
  obtain ⟨i0, hi, hz0, hz1, hz2⟩ := info_parts Tryz.infoBk
  have hr := run_makeSlice (P := Tryz.prog) (w := w) 170 231 i0 _ Tryz.underlying170 hi hz0 .i64 .i64 c c (by omega) (Int.le_refl _) (by rw [hz1]; omega) (by rw [hz2]; omega) (by omega)
  rw [hz1, Nat.mul_one] at hr
  refine ⟨_, hr, (Below.refl _ _).alloc (Nat.le_refl _) _, by simp, w.heap.size + 1, w.heap.size, List.replicate c.toNat (.slice none 0 0), rfl, by simp, by simp; omega, by omega, Nat.le_refl _, by omega, ?_, by simp; omega, by simp; omega, by simp, ?_, ?_, ?_, ?_⟩
  · simp only [List.length_replicate]
    simp
  · have hm : (madeCells (Value.slice none 0 0).cells c.toNat) = (List.replicate c.toNat (Value.slice none 0 0)).toArray := by
      apply Array.ext_getElem?
      intro k
      by_cases hk : k < c.toNat
      · simp [madeCells, Value.cells, hk, Nat.mod_one]
      · simp [madeCells, Value.cells, hk, Nat.mod_one]
    rw [hm]
    rw [Below.heap_alloc _ _ _ (by simp), heap_alloc_new]
  · intro i h h'
    simp only [List.getElem_replicate]
    exact Own.nil _ _ _ _
  · intro v hv k hk
    rw [List.eq_of_mem_replicate hv] at hk
    simp [Value.ownBlock] at hk
  · intro i j h h' _ k hk
    simp [Value.ownBlock] at hk
set_option maxHeartbeats 1000000 in
set_option maxRecDepth 100000 in
theorem new_any (b : Int) (w : World) :
    Calls Tryz.prog 51 #[.int .i64 b] w fun e w' => ∃ v, e = .returned v ∧ ShelfIs w' (fun k => w.heap.size ≤ k) v (List.replicate (nB b) []) ∧ Below w.heap.size w w' := by
  have hc : (b < 1 ∧ nB b = (1 : Int).toNat) ∨ ((1 ≤ b ∧ b ≤ 100) ∧ nB b = b.toNat) ∨ (100 < b ∧ nB b = (100 : Int).toNat) := by unfold nB; omega
  rcases hc with ⟨h, hn⟩ | ⟨⟨h, h'⟩, hn⟩ | ⟨h, hn⟩
  · obtain ⟨W, hr, HB, hs, hS⟩ := shelf_made w 1 (by omega) (by omega)
    rw [hn]
    have HS := hide hS
    clear hn hS
    go_enter Tryz.func51, Tryz.ntmps51
    go_wp2
    go_ret
    exact ⟨_, rfl, unhide HS, HB.alloc (by omega) _⟩
  · obtain ⟨W, hr, HB, hs, hS⟩ := shelf_made w b (by omega) (by omega)
    rw [hn]
    have HS := hide hS
    clear hn hS
    go_enter Tryz.func51, Tryz.ntmps51
    go_wp2
    go_ret
    exact ⟨_, rfl, unhide HS, HB.alloc (by omega) _⟩
  · obtain ⟨W, hr, HB, hs, hS⟩ := shelf_made w 100 (by omega) (by omega)
    rw [hn]
    have HS := hide hS
    clear hn hS
    go_enter Tryz.func51, Tryz.ntmps51
    go_wp2
    go_ret
    exact ⟨_, rfl, unhide HS, HB.alloc (by omega) _⟩
end Go.Proofs.YtjjfdkdneibjbaaGreatDoor
/- Package shelf, all its blocks behind a bound: Put, Cut, Find, Len, one contract for each answer. -/
namespace Go.Proofs.YtjjfdkdneibjbaaGreatDoor
open Go.RowKit

/-- A shelf all of whose blocks are from B on. -/
def ShB (w : World) (B : Nat) (s : Value) (bs : List (List (Int × Int))) : Prop := ShelfIs w (fun k => B ≤ k) s bs
section
variable {w w' : World} {B : Nat} {s : Value} {bs : List (List (Int × Int))}
theorem ShB.below (h : ShB w B s bs) (hb : Below w.heap.size w w') : ShB w' B s bs := ShelfIs.below h hb
theorem ShB.ptr (h : ShB w B s bs) : ∃ p, s = .pointer (some ⟨p, 0, none⟩) := by
  obtain ⟨p, g, vs, h1, _⟩ := h
  exact ⟨p, h1⟩
theorem ShB.pos (h : ShB w B s bs) : 0 < bs.length := by
  obtain ⟨p, g, vs, h1, h2, h3, h4, h5, h6, h7, h8, _⟩ := h
  exact h8
theorem newB (b : Int) (w : World) (hB : B ≤ w.heap.size) :
    Calls Tryz.prog 51 #[.int .i64 b] w fun e w' => ∃ p, e = .returned (.pointer (some ⟨p, 0, none⟩)) ∧ ShB w' B (.pointer (some ⟨p, 0, none⟩)) (List.replicate (nB b) []) ∧ Below w.heap.size w w' :=
  (new_any b w).mono fun e w' ⟨v, h1, h2, h3⟩ => by
    have h4 : ShB w' B v (List.replicate (nB b) []) := ShelfIs.mono h2 fun k hk => Nat.le_trans hB hk
    obtain ⟨p, rfl⟩ := h4.ptr
    exact ⟨p, h1, h4, h3⟩
theorem put_yes (x id : Int) (h : ShB w B s bs) (hB : B ≤ w.heap.size) (h0 : 0 ≤ x) (h1 : x < 4294967296) (hlen : lenB bs < 1000000) (hb : ¬ hasB bs x id) :
    Calls Tryz.prog 144 #[s, .int .u32 x, .int .i64 id] w fun e w' => e = .returned (.bool true) ∧ ShB w' B s (putB bs x id) ∧ Below B w w' :=
  (put_any x id w h h0 h1 (Nat.lt_of_le_of_lt (le_lenB _) hlen)).mono fun e w' ⟨h2, h3, _, h5⟩ => by
    rw [decide_eq_false hb] at h2
    rw [if_neg hb] at h5
    exact ⟨h2, h5.mono fun k hk => by rcases hk with hk | hk <;> omega, h3.to_below hB fun k hk => hk⟩
theorem put_no (x id : Int) (h : ShB w B s bs) (h0 : 0 ≤ x) (h1 : x < 4294967296) (hlen : lenB bs < 1000000) (hb : hasB bs x id) :
    Calls Tryz.prog 144 #[s, .int .u32 x, .int .i64 id] w fun e w' => e = .returned (.bool false) ∧ ShB w' B s bs ∧ Below w.heap.size w w' :=
  (put_any x id w h h0 h1 (Nat.lt_of_le_of_lt (le_lenB _) hlen)).mono fun e w' ⟨h2, h3, h4, h5⟩ => by
    rw [decide_eq_true hb] at h2
    exact ⟨h2, ShB.below h (h4 hb), h4 hb⟩
theorem cut_yes (x id : Int) (h : ShB w B s bs) (hB : B ≤ w.heap.size) (h0 : 0 ≤ x) (h1 : x < 4294967296) (hb : hasB bs x id) :
    Calls Tryz.prog 149 #[s, .int .u32 x, .int .i64 id] w fun e w' => e = .returned (.bool true) ∧ ShB w' B s (cutB bs x id) ∧ Below B w w' :=
  (cut_any x id w h h0 h1).mono fun e w' ⟨h2, h3, _, h5⟩ => by
    rw [decide_eq_true hb] at h2
    rw [if_pos hb] at h5
    exact ⟨h2, h5.mono fun k hk => by rcases hk with hk | hk <;> omega, h3.to_below hB fun k hk => hk⟩
theorem cut_no (x id : Int) (h : ShB w B s bs) (h0 : 0 ≤ x) (h1 : x < 4294967296) (hb : ¬ hasB bs x id) :
    Calls Tryz.prog 149 #[s, .int .u32 x, .int .i64 id] w fun e w' => e = .returned (.bool false) ∧ ShB w' B s bs ∧ Below w.heap.size w w' :=
  (cut_any x id w h h0 h1).mono fun e w' ⟨h2, h3, h4, h5⟩ => by
    rw [decide_eq_false hb] at h2
    exact ⟨h2, ShB.below h (h4 hb), h4 hb⟩
theorem findB (x : Int) (h : ShB w B s bs) (h0 : 0 ≤ x) (h1 : x < 4294967296) (hlen : lenB bs < 1000000) (L : List Int) (hL : findL bs x = L) :
    Calls Tryz.prog 142 #[s, .int .u32 x] w fun e w' => ∃ A c, e = .returned (.slice A L.length c) ∧ Own eI 3 w' w.heap.size (.slice A L.length c) L ∧ ShB w' B s bs ∧ Below w.heap.size w w' := by
  subst hL
  refine (find_any x w h h0 h1 (by have := le_lenB (bs := bs) (bk bs x); omega)).mono fun e w' ⟨v, h2, h3, h4⟩ => ?_
  obtain ⟨A, c, rfl, _⟩ := h3.sl
  exact ⟨A, c, h2, h3, h.below h4, h4⟩
end
/-- The blocks of a shelf that was there when blocks m to m' came. -/
def Gap (B m m' : Nat) : Nat → Prop := fun k => B ≤ k ∧ (k < m ∨ m' ≤ k)
section
variable {w w' : World} {G : Nat → Prop} {s : Value} {bs : List (List (Int × Int))}
theorem ShelfIs.gap {B m m' : Nat} (h : ShelfIs w (fun k => B ≤ k) s bs) (hb : Below w.heap.size w w') (hm : m = w.heap.size) : ShelfIs w' (Gap B m m') s bs := by
  have h0 := h.below hb
  obtain ⟨p, g, vs, h1, h2, h3, h4, h5, h6, h7, h8, h9, h10, h11, h12, h13, h14⟩ := h
  obtain ⟨p', g', vs', k1, k2, k3, k4, k5, k6, k7, k8, k9, k10, k11, k12, k13, k14⟩ := h0
  subst h1
  injection k1 with k1
  injection k1 with k1
  injection k1 with k1 _
  subst k1
  have e7 := (hb.cell (p := ⟨p, 0, none⟩) h2).symm.trans k7
  rw [h7] at e7
  injection e7 with e7
  injection e7 with e7 _ _
  injection e7 with e7
  injection e7 with e7 _
  subst e7
  have e11 := (hb.block g h3).symm.trans k11
  rw [h11] at e11
  injection e11 with e11
  injection e11 with e11 _ _
  have e11' : vs = vs' := by
    have := congrArg Array.toList e11
    simpa using this
  subst e11'
  refine ⟨p, g, vs, rfl, k2, k3, ⟨h4, .inl (by omega)⟩, ⟨h5, .inl (by omega)⟩, k6, k7, k8, k9, k10, k11, k12, fun v hv k hk => ?_, k14⟩
  obtain ⟨i, hi, rfl⟩ := List.mem_iff_getElem.1 hv
  exact ⟨⟨(h13 _ hv k hk).1, .inl (by have := ((h12 i (by omega) hi).lt k hk).2; omega)⟩, (h13 _ hv k hk).2⟩
theorem put_yesG (x id : Int) (h : ShelfIs w G s bs) (hG : ∀ k, w.heap.size ≤ k → G k) (h0 : 0 ≤ x) (h1 : x < 4294967296) (hlen : lenB bs < 1000000) (hb : ¬ hasB bs x id) :
    Calls Tryz.prog 144 #[s, .int .u32 x, .int .i64 id] w fun e w' => e = .returned (.bool true) ∧ ShelfIs w' G s (putB bs x id) ∧ Chg G w w' :=
  (put_any x id w h h0 h1 (Nat.lt_of_le_of_lt (le_lenB _) hlen)).mono fun e w' ⟨h2, h3, _, h5⟩ => by
    rw [decide_eq_false hb] at h2
    rw [if_neg hb] at h5
    exact ⟨h2, h5.mono fun k hk => by rcases hk with hk | hk; exact hk; exact hG k hk, h3⟩
theorem put_noG (x id : Int) (h : ShelfIs w G s bs) (h0 : 0 ≤ x) (h1 : x < 4294967296) (hlen : lenB bs < 1000000) (hb : hasB bs x id) :
    Calls Tryz.prog 144 #[s, .int .u32 x, .int .i64 id] w fun e w' => e = .returned (.bool false) ∧ ShelfIs w' G s bs ∧ Below w.heap.size w w' :=
  (put_any x id w h h0 h1 (Nat.lt_of_le_of_lt (le_lenB _) hlen)).mono fun e w' ⟨h2, h3, h4, h5⟩ => by
    rw [decide_eq_true hb] at h2
    exact ⟨h2, h.below (h4 hb), h4 hb⟩
theorem cut_yesG (x id : Int) (h : ShelfIs w G s bs) (hG : ∀ k, w.heap.size ≤ k → G k) (h0 : 0 ≤ x) (h1 : x < 4294967296) (hb : hasB bs x id) :
    Calls Tryz.prog 149 #[s, .int .u32 x, .int .i64 id] w fun e w' => e = .returned (.bool true) ∧ ShelfIs w' G s (cutB bs x id) ∧ Chg G w w' :=
  (cut_any x id w h h0 h1).mono fun e w' ⟨h2, h3, _, h5⟩ => by
    rw [decide_eq_true hb] at h2
    rw [if_pos hb] at h5
    exact ⟨h2, h5.mono fun k hk => by rcases hk with hk | hk; exact hk; exact hG k hk, h3⟩
theorem cut_noG (x id : Int) (h : ShelfIs w G s bs) (h0 : 0 ≤ x) (h1 : x < 4294967296) (hb : ¬ hasB bs x id) :
    Calls Tryz.prog 149 #[s, .int .u32 x, .int .i64 id] w fun e w' => e = .returned (.bool false) ∧ ShelfIs w' G s bs ∧ Below w.heap.size w w' :=
  (cut_any x id w h h0 h1).mono fun e w' ⟨h2, h3, h4, h5⟩ => by
    rw [decide_eq_false hb] at h2
    exact ⟨h2, h.below (h4 hb), h4 hb⟩
theorem findG (x : Int) (h : ShelfIs w G s bs) (h0 : 0 ≤ x) (h1 : x < 4294967296) (hlen : lenB bs < 1000000) (L : List Int) (hL : findL bs x = L) :
    Calls Tryz.prog 142 #[s, .int .u32 x] w fun e w' => ∃ A c, e = .returned (.slice A L.length c) ∧ Own eI 3 w' w.heap.size (.slice A L.length c) L ∧ ShelfIs w' G s bs ∧ Below w.heap.size w w' := by
  subst hL
  refine (find_any x w h h0 h1 (by have := le_lenB (bs := bs) (bk bs x); omega)).mono fun e w' ⟨v, h2, h3, h4⟩ => ?_
  obtain ⟨A, c, rfl, _⟩ := h3.sl
  exact ⟨A, c, h2, h3, h.below h4, h4⟩
end

end Go.Proofs.YtjjfdkdneibjbaaGreatDoor
/- Walks that package pool needs: film.Zero, strings.Clone. -/
namespace Go.Proofs.YtjjfdkdneibjbaaGreatDoor
open Go.RowKit

/-- All bytes are 0. -/
def zeroB (s : ByteArray) : Bool := s.data.toList.all fun b => b == 0
theorem dropWhile_none (l : List UInt8) : l.dropWhile (fun b => b == 0) = [] ↔ ∀ b ∈ l, (b == 0) = true := by
  induction l with
  | nil => simp
  | cons a l ih =>
    rw [List.dropWhile_cons]
    by_cases h : (a == 0) = true
    · rw [if_pos h, ih]
      simp only [List.mem_cons, forall_eq_or_imp, h, true_and]
    · rw [if_neg h]
      exact ⟨(fun e => by cases e), fun e => absurd (e a List.mem_cons_self) h⟩
theorem trimB_zero (l : List UInt8) : Lib.trimB l 0 = [] ↔ (l.all fun b => b == 0) = true := by
  unfold Lib.trimB Lib.trimLeftB Lib.trimRightB
  rw [dropWhile_none, List.all_eq_true]
  constructor
  · intro h b hb
    rw [← List.mem_reverse, ← List.takeWhile_append_dropWhile (p := fun b : UInt8 => b == 0) (l := l.reverse), List.mem_append] at hb
    rcases hb with hb | hb
    · exact List.all_eq_true.1 (List.all_takeWhile (p := fun b : UInt8 => b == 0) (l := l.reverse)) b hb
    · exact h b (List.mem_reverse.2 hb)
  · intro h b hb
    exact h b (List.mem_reverse.1 ((List.dropWhile_sublist _).subset (List.mem_reverse.1 hb)))

theorem zero_yes (s : ByteArray) (w : World) (hs : s.size ≤ 1000000) (h : zeroB s = true) :
    Calls Tryz.prog 71 #[.string s] w fun e w' => e = .returned (.bool true) ∧ ∃ q, w' = w.drewN q := by
  have hz := (trimB_zero s.data.toList).2 h
  have htr : ∀ w1 : World, Calls Tryz.prog 141 #[.string s, .string ⟨#[0]⟩] w1 fun e w' => e = .returned (.string ⟨#[]⟩) ∧ (w' = w1 ∨ w' = w1.drew) := by
    intro w1
    have := Tryz.strings_Trim_one s 0 (by decide) w1 (by omega)
    rw [hz] at this
    exact this
  have Htr := hide htr
  clear htr hz h
  go_enter Tryz.func71, Tryz.ntmps71
  go_wp2_with fail
  refine (unhide Htr _).mono ?_
  rintro e w' ⟨rfl, hw | hw⟩
  all_goals
    subst hw
    go_wp2
    go_ret
  · exact ⟨rfl, 0, rfl⟩
  · exact ⟨rfl, 1, rfl⟩
theorem zero_no (s : ByteArray) (w : World) (hs : s.size ≤ 1000000) (h : zeroB s = false) :
    Calls Tryz.prog 71 #[.string s] w fun e w' => e = .returned (.bool false) ∧ ∃ q, w' = w.drewN q := by
  have hz : Lib.trimB s.data.toList 0 ≠ [] := fun e => by
    have := (trimB_zero s.data.toList).1 e
    rw [show (s.data.toList.all fun b => b == 0) = zeroB s from rfl, h] at this
    cases this
  obtain ⟨l, hl⟩ : ∃ l, l = Lib.trimB s.data.toList 0 := ⟨_, rfl⟩
  have htr : ∀ w1 : World, Calls Tryz.prog 141 #[.string s, .string ⟨#[0]⟩] w1 fun e w' => e = .returned (.string ⟨l.toArray⟩) ∧ (w' = w1 ∨ w' = w1.drew) := by
    intro w1
    have := Tryz.strings_Trim_one s 0 (by decide) w1 (by omega)
    rw [← hl] at this
    exact this
  rw [← hl] at hz
  have hz1 : (!l.isEmpty) = true := by cases l <;> simp_all
  have hz2 : l.isEmpty = false := by cases l <;> simp_all
  have Htr := hide htr
  clear htr h hl
  go_enter Tryz.func71, Tryz.ntmps71
  go_wp2_with fail
  refine (unhide Htr _).mono ?_
  rintro e w' ⟨rfl, hw | hw⟩
  all_goals
    subst hw
    go_wp2
    go_ret
  · exact ⟨rfl, 0, rfl⟩
  · exact ⟨rfl, 1, rfl⟩
theorem clone_any (s : ByteArray) (w : World) (hs : s.size ≤ 1000000) :
    Calls Tryz.prog 77 #[.string s] w fun e w' => e = .returned (.string s) ∧ Below w.heap.size w w' := by
  go_enter Tryz.func77, Tryz.ntmps77
  go_wp2_with fail
  refine (Tryz.stringslite_Clone s w (by omega)).mono ?_
  rintro e w' ⟨rfl, hb⟩
  go_wp2
  go_ret
  exact ⟨rfl, hb⟩
end Go.Proofs.YtjjfdkdneibjbaaGreatDoor
/- Walks of package print: Turn, Mix, Of. -/
namespace Go.Proofs.YtjjfdkdneibjbaaGreatDoor
open Go.RowKit

def turnI (x : Int) : Int := bits .or .u32 (x * 32 % 4294967296) (x / 134217728)
def mixI (a b : Int) : Int := bits .xor .u32 (turnI a) b * 2654435761 % 4294967296
theorem wrap_bd (n : Int) : 0 ≤ IntKind.u32.wrap n ∧ IntKind.u32.wrap n < 4294967296 := by
  rw [IntKind.wrap_u32]; omega
theorem turn_bd (x : Int) : 0 ≤ turnI x ∧ turnI x < 4294967296 := wrap_bd _
theorem mix_bd (a b : Int) : 0 ≤ mixI a b ∧ mixI a b < 4294967296 := by unfold mixI; omega
theorem turn_any (x : Int) (w : World) (_ : 0 ≤ x) (_ : x < 4294967296) :
    Calls Tryz.prog 209 #[.int .u32 x, .int .i64 5] w fun e w' => e = .returned (.int .u32 (turnI x)) ∧ w' = w := by
  have hb : bits .and .u64 5 31 = 5 := by kernel_rfl
  go_enter Tryz.func209, Tryz.ntmps209
  go_wp2
  go_ret
  exact ⟨rfl, rfl⟩
theorem mix_any (a b : Int) (w : World) (h0 : 0 ≤ a) (h1 : a < 4294967296) :
    Calls Tryz.prog 185 #[.int .u32 a, .int .u32 b] w fun e w' => e = .returned (.int .u32 (mixI a b)) ∧ w' = w := by
  obtain ⟨t, ht⟩ : ∃ t, t = turnI a := ⟨_, rfl⟩
  have hm : mixI a b = bits .xor .u32 t b * 2654435761 % 4294967296 := by rw [ht]; rfl
  rw [hm]
  have hx : 0 ≤ bits .xor .u32 t b ∧ bits .xor .u32 t b < 4294967296 := wrap_bd _
  have hx0 := hx.1
  have hx1 := hx.2
  have Ht := hide ht
  clear ht hm hx
  go_enter Tryz.func185, Tryz.ntmps185
  go_wp2_with (go_at_call 209; refine (turn_any a w h0 h1).mono ?_; rintro e w' ⟨he, hw⟩; subst he; subst hw; rw [← unhide Ht])
  go_ret
  exact ⟨rfl, rfl⟩
/-- The fingerprint of the first so many bytes, on the way. -/
def prL (l : List UInt8) : Int := l.foldl (fun x b => mixI x (b.toNat : Int)) 2166136261
/-- A text's fingerprint. -/
def ofI (s : ByteArray) : Int := mixI (prL s.data.toList) (s.size : Int)
theorem ofL_bd (l : List UInt8) : 0 ≤ prL l ∧ prL l < 4294967296 := by
  unfold prL
  suffices h : ∀ (l : List UInt8) (x : Int), 0 ≤ x ∧ x < 4294967296 → 0 ≤ l.foldl (fun x b => mixI x (b.toNat : Int)) x ∧ l.foldl (fun x b => mixI x (b.toNat : Int)) x < 4294967296 from h l _ (by omega)
  intro l
  induction l with
  | nil => exact fun x h => h
  | cons a l ih => exact fun x _ => ih _ (mix_bd _ _)
theorem ofI_bd (s : ByteArray) : 0 ≤ ofI s ∧ ofI s < 4294967296 := mix_bd _ _
theorem prL_snoc (l : List UInt8) (b : UInt8) : prL (l ++ [b]) = mixI (prL l) (b.toNat : Int) := by simp [prL]
theorem take_snoc (s : ByteArray) (k : Nat) (h : k < s.size) : s.data.toList.take (k + 1) = s.data.toList.take k ++ [s[k]] := by
  rw [List.take_succ_eq_append_getElem (by simpa using h)]; rfl
set_option maxHeartbeats 1000000 in
theorem pof_any (s : ByteArray) (w : World) (hs : s.size ≤ 1000000) :
    Calls Tryz.prog 143 #[.string s] w fun e w' => e = .returned (.int .u32 (ofI s)) ∧ w' = w := by
  go_enter Tryz.func143, Tryz.ntmps143
  go_wp2_with fail
  go_loop [3, 7] (fun x i => ∃ (k : Nat) (z : Int), k ≤ s.size ∧ i = .int .i64 k ∧ x = .int .u32 z ∧ z = prL (s.data.toList.take k)) (fun _ i => s.size - (intOf i).toNat)
  case atStart => exact ⟨0, 2166136261, Nat.zero_le _, rfl, rfl, rfl⟩
  case round =>
    obtain ⟨k, z, hk, rfl, rfl, hz⟩ := hrel
    have hb := ofL_bd (s.data.toList.take k)
    rw [← hz] at hb
    have hb0 := hb.1
    have hb1 := hb.2
    have Hz := hide hz
    clear hz hb
    by_cases hlt : k < s.size
    · have Hsn := hide (take_snoc s k hlt)
      go_wp2_with (go_at_call 185; refine (mix_any z _ w hb0 hb1).mono ?_; rintro e w' ⟨he, hw⟩; subst he; subst hw)
      go_round
      case rel => exact ⟨k + 1, _, by omega, by go_num, rfl, by rw [unhide Hsn, prL_snoc, ← unhide Hz, Int.emod_eq_of_lt (by omega) (by have := s[k].toNat_lt; omega)]⟩
      case measure => simp [intOf]; omega
    · obtain rfl : k = s.size := by omega
      have Hof := hide (show ofI s = mixI z (s.size : Int) by
        unfold ofI
        rw [unhide Hz, List.take_of_length_le (by simp)])
      go_wp2_with (go_at_call 185; refine (mix_any z _ w hb0 hb1).mono ?_; rintro e w' ⟨he, hw⟩; subst he; subst hw)
      go_ret
      exact ⟨by rw [unhide Hof]; rfl, rfl⟩
end Go.Proofs.YtjjfdkdneibjbaaGreatDoor
