/- Joined texts: RowOps20B. -/
import Derived.Test.YtjjfdkdneibjbaaGreatDoorJs37
import Derived.Test.YtjjfdkdneibjbaaGreatDoorJs28
import Derived.ChangeSlices
/- Slices of spans and of numbers that came in: their cells, as the walk asks for them. -/
namespace Go.Proofs.YtjjfdkdneibjbaaGreatDoor
open Go.ChangeShapes Go.WideShapes Go.Deep Go.RowKit

theorem open_spans {H : Type} {enc : TypeId × Value → H} {w : World} {v : Value} {d : DataW H} {p : List MemPlace} (hv : ∃ A n c, v = .slice A n c)
    (h : DataW.Trod enc Tryz.prog w 0 (fun _ => true) true 61 v d p) :
    ∃ A n c l, v = .slice A n c ∧ Sl eSp w A n c l := by
  obtain ⟨A, n, c, rfl⟩ := hv
  obtain ⟨fuel, hf⟩ := h
  rcases open_slice_fields Tryz.underlying61 Tryz.underlying59 (by kernel_rfl) (by kernel_rfl) hf with ⟨h0, _⟩ | ⟨a, len, cap, m, D, Pl, hcs, _, hlc, hmax, hm, hx, hi⟩
  · simp [Value.cells] at h0
    obtain ⟨rfl, rfl, rfl⟩ := h0
    exact ⟨none, 0, 0, [], rfl, Sl.nil_ _ _⟩
  · simp [Value.cells] at hcs
    obtain ⟨rfl, rfl, rfl⟩ := hcs
    have hm' : m = c := by simpa using hm
    subst hm'
    have hp : ∀ i, ∃ q : Sp, i < n → ∀ j, j < 2 → w.cell? (a.add (i * 2 + j)) = some (eSp.cell q j) := by
      intro i
      by_cases hin : i < n
      · obtain ⟨ys, n', _, _, _, hfs⟩ := hi i (by omega)
        obtain ⟨v0, y0, c0, _, t0⟩ := hfs 0 _ rfl
        obtain ⟨v1, y1, c1, _, t1⟩ := hfs 1 _ rfl
        obtain ⟨z0, rfl, _⟩ := pt_int t0
        obtain ⟨z1, rfl, _⟩ := pt_int t1
        refine ⟨⟨z0, z1⟩, fun _ j hj => ?_⟩
        rcases (show j = 0 ∨ j = 1 by omega) with rfl | rfl
        · exact c0
        · exact c1
      · exact ⟨⟨0, 0⟩, fun h => absurd h hin⟩
    obtain ⟨f, hfn⟩ := Classical.axiomOfChoice hp
    refine ⟨some a, n, m, (List.range n).map f, rfl, ⟨by simp, hlc, hmax, fun hn => ?_⟩⟩
    obtain ⟨b, off, spot⟩ := a
    have h00 := hfn 0 hn 0 (by omega)
    have hspot : spot = none := by simpa [Addr.add] using World.cell?_spot h00
    subst hspot
    refine ⟨b, off, rfl, ?_, fun i hi' j hj => ?_⟩
    · rcases Nat.lt_or_ge b w.heap.size with h | h
      · exact h
      · simp [Addr.add, World.cell?, Array.getElem?_eq_none h] at h00
    · have hi'' : i < n := by simpa using hi'
      have := hfn i hi'' j hj
      rw [Go.WideShapes.add_plain] at this
      rw [show off + i * eSp.sz + j = off + (i * 2 + j) by show off + i * 2 + j = _; omega, this]
      simp
theorem open_nums {H : Type} {enc : TypeId × Value → H} {w : World} {v : Value} {d : DataW H} {p : List MemPlace} (hv : ∃ A n c, v = .slice A n c)
    (h : DataW.Trod enc Tryz.prog w 0 (fun _ => true) true 52 v d p) : ∃ A n c l, v = .slice A n c ∧ Sl eI w A n c l := by
  obtain ⟨A, n, c, rfl⟩ := hv
  obtain ⟨fuel, hf⟩ := h
  rcases open_ints Tryz.underlying52 Tryz.underlying3 (by kernel_rfl) hf with ⟨h0, _⟩ | ⟨a, len, cap, ss, hcs, _, hlc, hmax, hss, hx, hi, _⟩
  · simp [Value.cells] at h0
    obtain ⟨rfl, rfl, rfl⟩ := h0
    exact ⟨none, 0, 0, [], rfl, Sl.nil_ _ _⟩
  · simp [Value.cells] at hcs
    obtain ⟨rfl, rfl, rfl⟩ := hcs
    have hlen : ss.length = c := by simpa using hss
    refine ⟨some a, n, c, ss.take n, rfl, by rw [List.length_take]; omega, hlc, hmax, fun hn => ?_⟩
    obtain ⟨b, off, spot⟩ := a
    have h00 := hi 0 (by omega)
    have hspot : spot = none := by simpa [Addr.add] using World.cell?_spot h00
    subst hspot
    refine ⟨b, off, rfl, ?_, fun i hi' j hj => ?_⟩
    · rcases Nat.lt_or_ge b w.heap.size with h | h
      · exact h
      · simp [Addr.add, World.cell?, Array.getElem?_eq_none h] at h00
    · have hi2 : i < ss.length := by rw [List.length_take] at hi'; omega
      have hj0 : j = 0 := by have : j < 1 := hj; omega
      subst hj0
      have := hi i hi2
      rw [Go.WideShapes.add_plain] at this
      rw [show off + i * eI.sz + 0 = off + i by show off + i * 1 + 0 = _; omega, this]
      simp [eI, List.getD, List.getElem?_eq_getElem hi2]
end Go.Proofs.YtjjfdkdneibjbaaGreatDoor
