/- A slice of points that came in, with each point's extents. -/
import Derived.Test.YtdpbjigdihajjaaDoorRowPts
import Derived.Test.YtdpbjigdihajjaaDoorExt
namespace Go.Proofs.YtdpbjigdihajjaaDoor
open Go.ChangeShapes Go.WideShapes Go.Deep Go.RowKit

theorem pt_exts {H : Type} {enc : TypeId × Value → H} {w : World} {base : Nat} {spare : Nat → Bool} {held : Bool} {n : Nat} {v : Value} {y : DataW H × List MemPlace}
    (h : DataW.trod enc Tryd.prog w base spare held n 77 [v] = some y) : ∃ A m c es, v = .slice A m c ∧ Sl eE w A m c es := by
  rcases open_slice_fields Tryd.underlying77 Tryd.underlying81 (by kernel_rfl) (by kernel_rfl) h with ⟨h0, _⟩ | ⟨a, len, cap, m, D, Pl, hcs, _, hlc, hmax, hm, hx, hi⟩
  · simp at h0
    exact ⟨none, 0, 0, [], h0, Sl.nil_ _ _⟩
  · simp at hcs
    subst hcs
    have hlm : len ≤ m := by rw [hm]; split <;> omega
    have hp : ∀ i, ∃ q : Ext, i < len → ∀ j, j < 3 → w.cell? (a.add (i * 3 + j)) = some (eE.cell q j) := by
      intro i
      by_cases hin : i < len
      · obtain ⟨ys, n', _, _, _, hfs⟩ := hi i (by omega)
        obtain ⟨v0, y0, c0, _, t0⟩ := hfs 0 _ rfl
        obtain ⟨v1, y1, c1, _, t1⟩ := hfs 1 _ rfl
        obtain ⟨v2, y2, c2, _, t2⟩ := hfs 2 _ rfl
        obtain ⟨z0, rfl, _⟩ := pt_int t0
        obtain ⟨z1, rfl, _⟩ := pt_int t1
        obtain ⟨z2, rfl, _⟩ := pt_int t2
        refine ⟨⟨z0, z1, z2⟩, fun _ j hj => ?_⟩
        rcases (show j = 0 ∨ j = 1 ∨ j = 2 by omega) with rfl | rfl | rfl
        · exact c0
        · exact c1
        · exact c2
      · exact ⟨⟨0, 0, 0⟩, fun h => absurd h hin⟩
    obtain ⟨f, hfn⟩ := Classical.axiomOfChoice hp
    refine ⟨some a, len, cap, (List.range len).map f, rfl, ⟨by simp, hlc, hmax, fun hn => ?_⟩⟩
    obtain ⟨b, off, spot⟩ := a
    have h00 := hfn 0 hn 0 (by omega)
    have hspot : spot = none := by simpa [Addr.add] using World.cell?_spot h00
    subst hspot
    refine ⟨b, off, rfl, ?_, fun i hi' j hj => ?_⟩
    · rcases Nat.lt_or_ge b w.heap.size with h | h
      · exact h
      · simp [Addr.add, World.cell?, Array.getElem?_eq_none h] at h00
    · have hi'' : i < len := by simpa using hi'
      have := hfn i hi'' j hj
      rw [Go.WideShapes.add_plain] at this
      rw [show off + i * eE.sz + j = off + (i * 3 + j) by show off + i * 3 + j = _; omega, this]
      simp
theorem open_ptsE {H : Type} {enc : TypeId × Value → H} {w : World} {v : Value} {d : DataW H} {p : List MemPlace} (hv : ∃ A n c, v = .slice A n c)
    (h : DataW.Trod enc Tryd.prog w 0 (fun _ => true) true 43 v d p) :
    ∃ A n c ps, v = .slice A n c ∧ Sl ePt w A n c ps ∧ ∀ i (h : i < ps.length), ∃ es, Sl eE w ps[i].eA ps[i].eN ps[i].eC es := by
  obtain ⟨A, n, c, rfl⟩ := hv
  obtain ⟨fuel, hf⟩ := h
  rcases open_slice_fields Tryd.underlying43 Tryd.underlying79 (by kernel_rfl) (by kernel_rfl) hf with ⟨h0, _⟩ | ⟨a, len, cap, m, D, Pl, hcs, _, hlc, hmax, hm, hx, hi⟩
  · simp [Value.cells] at h0
    obtain ⟨rfl, rfl, rfl⟩ := h0
    exact ⟨none, 0, 0, [], rfl, Sl.nil_ _ _, fun i h => by simp at h⟩
  · simp [Value.cells] at hcs
    obtain ⟨rfl, rfl, rfl⟩ := hcs
    have hm' : m = c := by simpa using hm
    subst hm'
    have hp : ∀ i, ∃ q : Pt, i < n → (∀ j, j < 4 → w.cell? (a.add (i * 4 + j)) = some (ePt.cell q j)) ∧ ∃ es, Sl eE w q.eA q.eN q.eC es := by
      intro i
      by_cases hin : i < n
      · obtain ⟨ys, n', _, _, _, hfs⟩ := hi i (by omega)
        obtain ⟨v0, y0, c0, _, t0⟩ := hfs 0 _ rfl
        obtain ⟨v1, y1, c1, _, t1⟩ := hfs 1 _ rfl
        obtain ⟨v2, y2, c2, _, t2⟩ := hfs 2 _ rfl
        obtain ⟨v3, y3, c3, _, t3⟩ := hfs 3 _ rfl
        obtain ⟨z0, rfl, _⟩ := pt_int t0
        obtain ⟨z1, rfl, _⟩ := pt_int t1
        obtain ⟨z2, rfl, _⟩ := pt_int t2
        obtain ⟨A3, m3, c3', es, rfl, hes⟩ := pt_exts t3
        refine ⟨⟨z0, z1, z2, A3, m3, c3'⟩, fun _ => ⟨fun j hj => ?_, es, hes⟩⟩
        rcases (show j = 0 ∨ j = 1 ∨ j = 2 ∨ j = 3 by omega) with rfl | rfl | rfl | rfl
        · exact c0
        · exact c1
        · exact c2
        · exact c3
      · exact ⟨⟨0, 0, 0, none, 0, 0⟩, fun h => absurd h hin⟩
    obtain ⟨f, hfn⟩ := Classical.axiomOfChoice hp
    refine ⟨some a, n, m, (List.range n).map f, rfl, ⟨by simp, hlc, hmax, fun hn => ?_⟩, fun i hi' => ?_⟩
    · obtain ⟨b, off, spot⟩ := a
      have h00 := (hfn 0 hn).1 0 (by omega)
      have hspot : spot = none := by simpa [Addr.add] using World.cell?_spot h00
      subst hspot
      refine ⟨b, off, rfl, ?_, fun i hi' j hj => ?_⟩
      · rcases Nat.lt_or_ge b w.heap.size with h | h
        · exact h
        · simp [Addr.add, World.cell?, Array.getElem?_eq_none h] at h00
      · have hi'' : i < n := by simpa using hi'
        have := (hfn i hi'').1 j hj
        rw [Go.WideShapes.add_plain] at this
        rw [show off + i * ePt.sz + j = off + (i * 4 + j) by show off + i * 4 + j = _; omega, this]
        simp
    · have hi'' : i < n := by simpa using hi'
      have := (hfn i hi'').2
      simpa using this
end Go.Proofs.YtdpbjigdihajjaaDoor
