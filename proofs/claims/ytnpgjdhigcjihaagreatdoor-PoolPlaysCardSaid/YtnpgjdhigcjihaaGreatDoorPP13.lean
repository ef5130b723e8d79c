/- Joined texts: Sort. -/
import Derived.Test.YtnpgjdhigcjihaaGreatDoorPP03
import Derived.Test.YtnpgjdhigcjihaaGreatDoorLaid
import Derived.Sort.OwnSortedInts
/- slices.Sort at []int, by the library's contract, over a row of the call's own. -/
namespace Go.Proofs.YtnpgjdhigcjihaaGreatDoor
open Go.RowKit

theorem sort_any {w : World} {base : Nat} {v : Value} {L : List Int} (h : Own eI 3 w base v L) (hl : L.length < 4611686018427387904) :
    Calls Tryz.prog 74 #[v] w fun e w' => e = .returned (.tuple #[]) ∧ Own eI 3 w' base v (L.mergeSort fun a b => decide (a ≤ b)) ∧ w.grownBy w' v.ownBlock := by
  obtain ⟨h1, h2⟩ := id h
  rcases h2 with ⟨rfl, h2⟩ | ⟨g, cap, cur, rfl, hg, hh, hnc, hm, hs, ht⟩
  · obtain rfl : L = [] := List.eq_nil_of_length_eq_zero h2
    refine (Tryz.slices_Sort_int_none none 0 w).mono ?_
    rintro e w' ⟨rfl, rfl⟩
    refine ⟨rfl, ?_, World.grownBy.refl _ _⟩
    rw [List.mergeSort_nil]
    exact Own.nil _ _ _ _
  · have hz : eI.sz = 1 := rfl
    have ht' : cur.toList.take L.length = L.map (Value.int .i64) := by rw [← flat_ints, ← ht, hz, Nat.mul_one]
    refine (Tryz.slices_Sort_int g 0 cap L w (holds_of_blockI hh ht') (Array.getElem?_eq_some_iff.1 hh).1 hl).mono ?_
    rintro e w' ⟨rfl, n, os, rfl⟩
    refine ⟨rfl, ?_, grownBy_sortedI _⟩
    unfold Own
    rw [flat_ints, List.length_mergeSort]
    exact ownsRow_sortedI (List.length_mergeSort _) hg hh hnc hm (by rw [hs, hz])
end Go.Proofs.YtnpgjdhigcjihaaGreatDoor
