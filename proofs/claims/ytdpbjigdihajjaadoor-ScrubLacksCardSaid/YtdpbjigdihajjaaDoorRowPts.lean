/- A slice of points that came in: its cells, as the walks ask for them. -/
import Derived.Test.YtdpbjigdihajjaaDoorPt
import Derived.Test.YtdpbjigdihajjaaDoorFields
namespace Go.Proofs.YtdpbjigdihajjaaDoor
open Go.ChangeShapes Go.WideShapes Go.Deep Go.RowKit

theorem pt_ext {H : Type} {enc : TypeId × Value → H} {w : World} {base : Nat} {spare : Nat → Bool} {held : Bool} {n : Nat} {v : Value} {y : DataW H × List MemPlace}
    (h : DataW.trod enc Tryd.prog w base spare held n 77 [v] = some y) : ∃ A m c, v = .slice A m c := by
  rcases open_slice Tryd.underlying77 h with ⟨h0, _⟩ | ⟨a, len, cap, _, _, _, _, hcs, _⟩
  · simp at h0; exact ⟨_, _, _, h0⟩
  · simp at hcs; exact ⟨_, _, _, hcs⟩

theorem open_pts {H : Type} {enc : TypeId × Value → H} {w : World} {v : Value} {d : DataW H} {p : List MemPlace} (hv : ∃ A n c, v = .slice A n c)
    (h : DataW.Trod enc Tryd.prog w 0 (fun _ => true) true 43 v d p) :
    ∃ A n c ps, v = .slice A n c ∧ Sl ePt w A n c ps ∧ ∀ q ∈ ps, q.day ≤ 9223372036854775807 ∧ -9223372036854775808 ≤ q.day := by
  obtain ⟨A, n, c, rfl⟩ := hv
  obtain ⟨fuel, hf⟩ := h
  rcases open_slice_fields Tryd.underlying43 Tryd.underlying79 (by kernel_rfl) (by kernel_rfl) hf with ⟨h0, _⟩ | ⟨a, len, cap, m, D, Pl, hcs, _, hlc, hmax, hm, hx, hi⟩
  · simp [Value.cells] at h0
    obtain ⟨rfl, rfl, rfl⟩ := h0
    exact ⟨none, 0, 0, [], rfl, Sl.nil_ _ _, by simp⟩
  · simp [Value.cells] at hcs
    obtain ⟨rfl, rfl, rfl⟩ := hcs
    have hm' : m = c := by simpa using hm
    subst hm'
    have hp : ∀ i, ∃ q : Pt, i < n → (∀ j, j < 4 → w.cell? (a.add (i * 4 + j)) = some (ePt.cell q j)) ∧ q.day ≤ 9223372036854775807 ∧ -9223372036854775808 ≤ q.day := by
      intro i
      by_cases hin : i < n
      · obtain ⟨ys, n', _, _, _, hfs⟩ := hi i (by omega)
        obtain ⟨v0, y0, c0, _, t0⟩ := hfs 0 _ rfl
        obtain ⟨v1, y1, c1, _, t1⟩ := hfs 1 _ rfl
        obtain ⟨v2, y2, c2, _, t2⟩ := hfs 2 _ rfl
        obtain ⟨v3, y3, c3, _, t3⟩ := hfs 3 _ rfl
        obtain ⟨z0, rfl, _⟩ := pt_int t0
        obtain ⟨z1, rfl, _⟩ := pt_int t1
        obtain ⟨z2, rfl, w2⟩ := pt_int t2
        obtain ⟨A3, m3, c3', rfl⟩ := pt_ext t3
        refine ⟨⟨z0, z1, z2, A3, m3, c3'⟩, fun _ => ⟨fun j hj => ?_, (bounds_i64 w2).2, (bounds_i64 w2).1⟩⟩
        rcases (show j = 0 ∨ j = 1 ∨ j = 2 ∨ j = 3 by omega) with rfl | rfl | rfl | rfl
        · exact c0
        · exact c1
        · exact c2
        · exact c3
      · exact ⟨⟨0, 0, 0, none, 0, 0⟩, fun h => absurd h hin⟩
    obtain ⟨f, hfn⟩ := Classical.axiomOfChoice hp
    refine ⟨some a, n, m, (List.range n).map f, rfl, ⟨by simp, hlc, hmax, fun hn => ?_⟩, fun q hq => ?_⟩
    · obtain ⟨b, off, spot⟩ := a
      have h00 := (hfn 0 hn).1 0 (by omega)
      have hspot : spot = none := by simpa [Addr.add] using World.cell?_spot h00
      subst hspot
      refine ⟨b, off, rfl, ?_, fun i hi' j hj => ?_⟩
      · rcases Nat.lt_or_ge b w.heap.size with h | h
        · exact h
        · simp [Addr.add, World.cell?, Array.getElem?_eq_none h] at h00
      · have hi'' : i < n := by simpa using hi'
        have := (hfn i hi'').1 j hj
        rw [Go.WideShapes.add_plain] at this
        rw [show off + i * ePt.sz + j = off + (i * 4 + j) by show off + i * 4 + j = _; omega, this]
        simp
    · obtain ⟨i, hi', rfl⟩ := List.mem_map.1 hq
      exact (hfn i (List.mem_range.1 hi')).2
end Go.Proofs.YtdpbjigdihajjaaDoor
