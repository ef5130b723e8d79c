/- Joined texts: FilmE. -/
import Derived.Test.YtjjfdkdneibjbaaGreatDoorJa03
import Derived.Test.YtjjfdkdneibjbaaGreatDoorJa04
/- A film behind a write: its bytes; what else changes. -/
namespace Go.Proofs.YtjjfdkdneibjbaaGreatDoor
open Go.RowKit
variable {w : World} {p g c : Nat} {l : List UInt8}

theorem setCells_size (b : Nat) : ∀ (vs : List Value) (o : Nat) (w : World), (w.setCells b o vs).heap.size = w.heap.size
  | [], _, _ => rfl
  | v :: vs, o, w => by rw [World.setCells, setCells_size b vs (o + 1)]; simp [World.setCell]
theorem setCells_heap (b : Nat) (k : Nat) (hk : k ≠ b) : ∀ (vs : List Value) (o : Nat) (w : World), (w.setCells b o vs).heap[k]? = w.heap[k]?
  | [], _, _ => rfl
  | v :: vs, o, w => by rw [World.setCells, setCells_heap b k hk vs (o + 1)]; exact Below.heap_setCell _ _ _ _ hk
theorem setCells_chg (b : Nat) : ∀ (vs : List Value) (o : Nat) (w : World), Chg (fun k => k = b) w (w.setCells b o vs)
  | [], _, w => Chg.refl _ w
  | v :: vs, o, w => by
    rw [World.setCells]
    exact Chg.trans (b := w.setCell ⟨b, o, none⟩ v) ⟨rfl, rfl, rfl, by simp [World.setCell], fun k _ hk => Below.heap_setCell _ _ _ _ hk⟩ (setCells_chg b vs (o + 1) _)
/-- The bytes behind a write. -/
def layL (l : List UInt8) (a : Nat) (s : ByteArray) : List UInt8 := l.take a ++ (s.data.toList ++ l.drop (a + s.size))
theorem layL_len {a : Nat} {s : ByteArray} (ha : a + s.size ≤ l.length) : (layL l a s).length = l.length := by
  have hz : s.data.toList.length = s.size := by rw [Array.length_toList]; rfl
  unfold layL
  rw [List.length_append, List.length_append, List.length_take, List.length_drop, hz]
  omega
theorem layL_get {a : Nat} {s : ByteArray} (ha : a + s.size ≤ l.length) (j : Nat) : (layL l a s)[j]? = if a ≤ j ∧ j < a + s.size then s.data.toList[j - a]? else l[j]? := by
  have hz : s.data.toList.length = s.size := by rw [Array.length_toList]; rfl
  unfold layL
  rw [List.getElem?_append, List.length_take, List.getElem?_append, hz]
  split
  · rw [if_neg (by omega), List.getElem?_take, if_pos (by omega)]
  · split
    · rw [if_pos (by omega)]; congr 1; omega
    · rw [if_neg (by omega), List.getElem?_drop]; congr 1; omega
theorem FilmIs.lay (h : FilmIs w p g c l) (a : Nat) (s : ByteArray) (ha : a + s.size ≤ l.length) : FilmIs (w.setCells g a (cellsU s)) p g c (layL l a s) := by
  have hz : s.data.toList.length = s.size := by rw [Array.length_toList]; rfl
  have hv : (cellsU s).length = s.size := by unfold cellsU; rw [List.length_map, hz]
  have hl := layL_len ha
  refine ⟨by rw [setCells_size]; exact h.lp, by rw [setCells_size]; exact h.lg, h.ne, ?_, by rw [hl]; exact h.le, h.cap, by rw [hl]; exact h.few, fun j hj => ?_, fun j hj => ?_⟩
  · rw [hl, World.cell?_setCells_out _ _ _ _ _ (fun e => absurd e h.ne)]
    exact h.sl
  · have hj' : j < l.length := by rw [← hl]; exact hj
    by_cases hin : a ≤ j ∧ j < a + s.size
    · obtain ⟨i, rfl⟩ : ∃ i, j = a + i := ⟨j - a, by omega⟩
      have hi : i < s.data.toList.length := by omega
      rw [World.cell?_setCells_in g (cellsU s) a w (fun k hk => by rw [h.cell (a + k) (by omega)]; rfl) i (by omega)]
      have e : (layL l a s)[a + i]'hj = s.data.toList[i]'hi := by
        have := layL_get ha (a + i)
        rw [List.getElem?_eq_getElem hj, if_pos (by omega), show a + i - a = i by omega, List.getElem?_eq_getElem hi] at this
        exact Option.some.inj this
      rw [e]
      simp [cellsU]
    · rw [World.cell?_setCells_out _ _ _ _ _ (fun _ _ => by rw [hv]; show j < a ∨ a + s.size ≤ j; omega), h.cell j hj']
      have e : (layL l a s)[j]'hj = l[j]'hj' := by
        have := layL_get ha j
        rw [List.getElem?_eq_getElem hj, if_neg hin, List.getElem?_eq_getElem hj'] at this
        exact Option.some.inj this
      rw [e]
  · rw [World.frozen?_setCells]
    exact h.free j (by rw [← hl]; exact hj)
end Go.Proofs.YtjjfdkdneibjbaaGreatDoor
