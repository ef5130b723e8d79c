/- Faults in their order: the comparison, the library's sort, no two alike. -/
import Derived.Test.YtdpbjigdihajjaaDoorScrP
import Derived.Test.YtdpbjigdihajjaaDoorLaid
import Derived.Test.YtdpbjigdihajjaaDoorIn
import Derived.StillTailTactics
import Derived.Sort.OwnSortedInts
namespace Go.Proofs.YtdpbjigdihajjaaDoor
open Go.RowKit Go.Sort Go.Lib Go.Shelf

/-- How two faults stand. -/
def cfF (x y : Int × Int) : Int := if Lib.compareInt x.1 y.1 ≠ 0 then Lib.compareInt x.1 y.1 else Lib.compareInt x.2 y.2
theorem ltF (x y : Int × Int) : ltOf cfF x y = decide (x.1 < y.1 ∨ (x.1 = y.1 ∧ x.2 < y.2)) := by
  unfold ltOf cfF Lib.compareInt
  rw [Bool.eq_iff_iff]
  simp only [decide_eq_true_eq]
  split <;> split <;> omega
theorem swoF : SWO (ltOf cfF) where
  irrefl x := by rw [ltF]; simp
  trans x y z h1 h2 := by rw [ltF] at *; simp at *; omega
  ntrans x y z h1 h2 := by rw [ltF] at *; simp at *; omega
set_option maxHeartbeats 1000000 in
theorem or_any (b : Nat) (p q : Int) (w : World) (h0 : w.cell? ⟨b, 0, none⟩ = some (.int .i64 p)) (h1 : w.cell? ⟨b, 1, none⟩ = some (.int .i64 q)) :
    Calls Tryd.prog 70 #[.slice (some ⟨b, 0, none⟩) 2 2] w fun e w' => e = .returned (.int .i64 (if p ≠ 0 then p else q)) ∧ w' = w := by
  by_cases hp : p = 0
  · rw [if_neg (by simp [hp])]
    have q0 : (p != 0) = false := by simp [hp]
    by_cases hq : q = 0
    · have q1 : (q != 0) = false := by simp [hq]
      have Hq := hide hq
      clear hp hq
      go_enter Tryd.func70, Tryd.ntmps70
      go_wp2_with fail
      refine wp_loop_rounds 3 ?_
      rw [rounds_succ]
      go_wp2_with fail
      rw [rounds_succ]
      go_wp2_with fail
      rw [rounds_succ]
      go_wp2_with fail
      go_ret
      exact ⟨ret_int (unhide Hq).symm, rfl⟩
    · have q1 : (q != 0) = true := by simpa using hq
      clear hp hq
      go_enter Tryd.func70, Tryd.ntmps70
      go_wp2_with fail
      refine wp_loop_rounds 3 ?_
      rw [rounds_succ]
      go_wp2_with fail
      rw [rounds_succ]
      go_wp2_with fail
      go_ret
      exact ⟨rfl, rfl⟩
  · rw [if_pos hp]
    have q0 : (p != 0) = true := by simpa using hp
    clear hp
    go_enter Tryd.func70, Tryd.ntmps70
    go_wp2_with fail
    refine wp_loop_rounds 3 ?_
    rw [rounds_succ]
    go_wp2_with fail
    go_ret
    exact ⟨rfl, rfl⟩

set_option maxHeartbeats 1000000 in
set_option maxRecDepth 100000 in
theorem order_any (x y : Int × Int) (w : World) : Calls Tryd.prog 47 #[.agg #[.int .i64 x.1, .int .i64 x.2], .agg #[.int .i64 y.1, .int .i64 y.2]] w fun e w' => e = .returned (.int .i64 (cfF x y)) ∧ ∃ q os', w' = grow (w.drewN q) os' := by
  obtain ⟨a1, a2⟩ := x
  obtain ⟨b1, b2⟩ := y
  show Calls _ _ #[.agg #[.int .i64 a1, .int .i64 a2], .agg #[.int .i64 b1, .int .i64 b2]] w _
  have hc1 := fun w1 => Tryd.cmp_Compare_int a1 b1 w1
  have hc2 := fun w1 => Tryd.cmp_Compare_int a2 b2 w1
  have hr : cfF (a1, a2) (b1, b2) = if Lib.compareInt a1 b1 ≠ 0 then Lib.compareInt a1 b1 else Lib.compareInt a2 b2 := rfl
  rw [hr]
  clear hr
  obtain ⟨p, hp⟩ : ∃ p, p = Lib.compareInt a1 b1 := ⟨_, rfl⟩
  obtain ⟨q, hq⟩ : ∃ q, q = Lib.compareInt a2 b2 := ⟨_, rfl⟩
  rw [← hp, ← hq]
  simp only [← hp] at hc1
  simp only [← hq] at hc2
  have Hc1 := hide hc1
  have Hc2 := hide hc2
  obtain ⟨r, hr⟩ : ∃ r, r = if p ≠ 0 then p else q := ⟨_, rfl⟩
  have hor := fun (b : Nat) (w : World) (h0 : w.cell? ⟨b, 0, none⟩ = some (.int .i64 p)) (h1 : w.cell? ⟨b, 1, none⟩ = some (.int .i64 q)) => or_any b p q w h0 h1
  rw [← hr]
  simp only [← hr] at hor
  have Hor := hide hor
  clear hp hq hc1 hc2 hr hor
  obtain ⟨w1, hw1⟩ : ∃ W, W = (w.alloc (.cells #[.int .i64 a1, .int .i64 a2] 55)).alloc (.cells #[.int .i64 b1, .int .i64 b2] 55) := ⟨_, rfl⟩
  have B1 : Below (w.heap.size + 1) (w.alloc (.cells #[.int .i64 a1, .int .i64 a2] 55)) w1 := by rw [hw1]; exact (Below.refl _ _).alloc (by simp) _
  have c0 : w1.cell? ⟨w.heap.size, 0, none⟩ = some (.int .i64 a1) := ((bcell B1).1 _ 0 (by omega)).trans (World.cell?_alloc_at _ _ _ _ rfl)
  have c1 : w1.cell? ⟨w.heap.size, 1, none⟩ = some (.int .i64 a2) := ((bcell B1).1 _ 1 (by omega)).trans (World.cell?_alloc_at _ _ _ _ rfl)
  have d0 : w1.cell? ⟨w.heap.size + 1, 0, none⟩ = some (.int .i64 b1) := by rw [hw1]; exact World.cell?_alloc_at _ _ _ _ (by simp)
  have d1 : w1.cell? ⟨w.heap.size + 1, 1, none⟩ = some (.int .i64 b2) := by rw [hw1]; exact World.cell?_alloc_at _ _ _ _ (by simp)
  have s1 : w1.heap.size = w.heap.size + 2 := by rw [hw1]; simp
  have Hw1 := hide hw1
  have Hs1 := hide s1
  clear B1 s1 hw1
  go_enter Tryd.func47, Tryd.ntmps47
  go_wp2_with fail
  rw [← unhide Hw1]
  refine wp_region_still_tail 10 (by kernel_rfl) (by kernel_rfl) ?_
  simp only [List.take_succ_cons, List.take_zero, List.drop_succ_cons, List.drop_zero]
  repeat still_step
  still_call (unhide Hc1 _)
  repeat still_step
  still_call (unhide Hc2 _)
  repeat still_step
  refine wpStill_nil ?_
  change wpList _ _ _ _ _ w1.drew
  go_wp2_with fail
  refine (unhide Hor w1.heap.size _ (World.cell?_alloc_at _ _ _ _ rfl) (World.cell?_alloc_at _ _ _ _ rfl)).mono ?_
  rintro e w' ⟨rfl, rfl⟩
  go_wp2
  go_ret
  refine ⟨rfl, 1, #[.cells #[.int .i64 a1, .int .i64 a2] 55, .cells #[.int .i64 b1, .int .i64 b2] 55, .cells #[.int .i64 p, .int .i64 q] 3], ?_⟩
  rw [unhide Hw1]
  simp only [alloc_eq_grow, grow_grow]
  rfl

theorem holds_of_blockF {w : World} {g : Nat} {cur : Array Value} {e : TypeId} {F : List Value} (hb : w.heap[g]? = some (.cells cur e (0, 0))) (ht : cur.toList.take F.length = F) : Holds id w g 0 F.toArray := by
  intro j hj
  have hj' : j < F.length := by simpa using hj
  refine ⟨?_, by simp [World.frozen?, hb]⟩
  have h1 : (cur.toList.take F.length)[j]? = F[j]? := by rw [ht]
  rw [List.getElem?_take_of_lt hj'] at h1
  simp only [World.cell?, hb, Nat.zero_add]
  simp only [Option.isSome_none, Bool.false_eq_true, if_false]
  rw [← Array.getElem?_toList, h1]
  simp [hj']
theorem heap_sortedF {w : World} {g n : Nat} {os : Array Obj} {cur : Array Value} {e : TypeId} {fr : Nat × Nat} (d : Array Value) (hb : w.heap[g]? = some (.cells cur e fr)) :
    (grow (putRow id (Sort.ahead w n) g 0 d) os).heap[g]? = some (.cells (putCells id 0 d cur) e fr) := by
  have hg : g < w.heap.size := (Array.getElem?_eq_some_iff.1 hb).1
  rw [heap_grow_old _ _ (by simpa using hg)]
  simp [putRow, mapBlock, Sort.ahead, Array.getElem?_modify, hb, onCells]
theorem grownBy_sortedF {w : World} {g n : Nat} {os : Array Obj} (d : Array Value) : w.grownBy (grow (putRow id (Sort.ahead w n) g 0 d) os) (some g) := by
  refine ⟨rfl, rfl, rfl, by simp, fun k hk hne => ?_⟩
  rw [heap_grow_old _ _ (by simpa using hk)]
  have : g ≠ k := fun e => hne (by rw [e])
  simp [putRow, mapBlock, Sort.ahead, Array.getElem?_modify, this]
theorem take_putCellsF (cur : Array Value) (ts : List Value) (h : ts.length ≤ cur.size) : (putCells id 0 ts.toArray cur).toList.take ts.length = ts := by
  apply List.ext_getElem?
  intro j
  by_cases hj : j < ts.length
  · rw [List.getElem?_take_of_lt hj, Array.getElem?_toList]
    simp [putCells, hj, show j < cur.size by omega]
  · rw [List.getElem?_take_eq_none (by omega), List.getElem?_eq_none (by omega)]
/-- The cells of rows of faults, as the library's sort lays them. -/
theorem flatK_eF (L : List (Int × Int)) : flatK eF.cells 2 L.toArray = (eF.flat L).toArray := by
  apply Array.ext
  · rw [size_flatK, List.size_toArray, List.size_toArray, Enc.flat_len]; rfl
  · intro t h1 h2
    have hz : eF.sz = 2 := rfl
    have ht : t < L.length * 2 := by simpa using h1
    have hq : t / 2 < L.length := by omega
    have h3 := get_flatK eF.cells 2 L.toArray t (by simpa using ht)
    rw [getElem!_pos (flatK eF.cells 2 L.toArray) t h1] at h3
    rw [h3]
    have h4 := Enc.flat_at (E := eF) (xs := L) (i := t / 2) (j := t % 2) hq (by rw [hz]; omega)
    rw [hz, show t / 2 * 2 + t % 2 = t by omega] at h4
    have h5 : (eF.flat L).toArray[t]? = some ((eF.flat L).toArray[t]) := Array.getElem?_eq_getElem h2
    rw [List.getElem?_toArray, h4] at h5
    injection h5 with h5
    rw [← h5, getElem!_pos L.toArray (t / 2) (by simpa using hq), List.getElem_toArray]
    have hl : t % 2 < (eF.cells L[t / 2]).length := by rw [Enc.cells_len, hz]; omega
    rw [getElem!_pos (eF.cells L[t / 2]) (t % 2) hl]
    simp [Enc.cells]
theorem sortF_any {w : World} {base : Nat} {v : Value} {L : List (Int × Int)} (h : Own eF 55 w base v L) (hl : L.length < 4611686018427387904) :
    Calls Tryd.prog 46 #[v, .func (.func 47) #[] #[]] w fun e w' => e = .returned (.tuple #[]) ∧ (∃ L', L'.Perm L ∧ Own eF 55 w' base v L') ∧ w.grownBy w' v.ownBlock := by
  obtain ⟨h1, h2⟩ := id h
  rcases h2 with ⟨rfl, h2⟩ | ⟨g, cap, cur, rfl, hg, hh, hnc, hm, hs, ht⟩
  · obtain rfl : L = [] := List.eq_nil_of_length_eq_zero h2
    refine (AnyF.slices_SortFunc_none Tryd.sortFFault none 0 _ w).mono ?_
    rintro e w' ⟨rfl, rfl⟩
    exact ⟨rfl, ⟨[], List.Perm.refl _, Own.nil _ _ _ _⟩, World.grownBy.refl _ _⟩
  · have hz : eF.sz = 2 := rfl
    have hfl : (eF.flat L).length = L.length * 2 := by rw [Enc.flat_len, hz]
    have hH : HoldsK eF.cells 2 w g 0 L.toArray := by
      unfold HoldsK
      rw [flatK_eF]
      exact holds_of_blockF hh (by rw [hfl, ← hz]; exact ht)
    have hcon := AnyQ.slices_SortFunc Tryd.sortFFault 2 Tryd.isAgg55 Tryd.sizeOf55 eF.cells (fun x => by rw [Enc.cells_len]; rfl) (fun x v hv => eF_one [x] v (by rw [Enc.flat_one]; exact hv)) cfF swoF 47 #[] g 0 cap L.toArray w
      (enters_of Tryd.func47 (by kernel_rfl) rfl) (fun _ _ _ _ x y => order_any x y _) hH (Array.getElem?_eq_some_iff.1 hh).1 (by simpa using hl)
    refine Calls.mono (show Calls Tryd.prog 46 #[.slice (some ⟨g, 0, none⟩) L.length cap, .func (.func 47) #[] #[]] w _ from hcon) ?_
    rintro e w' ⟨rfl, d', n, os, hp, _, rfl⟩
    obtain ⟨hp1, _, hp3⟩ := hp
    have hp3' : d'.toList.Perm L := by
      have e1 : (d'.extract 0 L.toArray.size).toList = d'.toList := by rw [← hp1]; simp
      have e2 : (L.toArray.extract 0 L.toArray.size).toList = L := by simp
      rw [e1, e2] at hp3
      exact hp3
    have hlen : d'.toList.length = L.length := hp3'.length_eq
    have hd : d' = d'.toList.toArray := by simp
    refine ⟨rfl, ⟨d'.toList, hp3', ?_⟩, ?_⟩
    · unfold sortWorldK putRowK
      rw [hd, flatK_eF]
      unfold Own
      refine ⟨by rw [Enc.flat_len], .inr ⟨g, cap, _, by rw [hlen], hg, heap_sortedF _ hh, by rw [hlen]; exact hnc, hm, by simp [putCells, hs], ?_⟩⟩
      have hfl2 : (eF.flat d'.toList).length = d'.toList.length * eF.sz := by rw [Enc.flat_len]
      rw [← hfl2]
      refine take_putCellsF cur _ ?_
      rw [hfl2, hs, hlen]
      exact Nat.mul_le_mul_right _ hnc
    · unfold sortWorldK putRowK
      exact grownBy_sortedF _
end Go.Proofs.YtdpbjigdihajjaaDoor
