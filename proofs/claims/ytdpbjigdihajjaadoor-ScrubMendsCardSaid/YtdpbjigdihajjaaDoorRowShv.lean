/- A slice of blocks that came in: its cells, as the walk asks for them. -/
import Derived.Test.YtdpbjigdihajjaaDoorFields
import Derived.Test.YtdpbjigdihajjaaDoorScrP
namespace Go.Proofs.YtdpbjigdihajjaaDoor
open Go.ChangeShapes Go.WideShapes Go.Deep Go.RowKit

theorem pt_text {H : Type} {enc : TypeId × Value → H} {w : World} {base : Nat} {spare : Nat → Bool} {held : Bool} {n : Nat} {v : Value} {y : DataW H × List MemPlace}
    (h : DataW.trod enc Tryd.prog w base spare held n 9 [v] = some y) : ∃ z : ByteArray, v = .string z := by
  obtain ⟨z, h1, _, h3⟩ := DataW.trod_string Tryd.underlying9 h
  simp at h1
  exact ⟨z, h1⟩
theorem open_shvs {H : Type} {enc : TypeId × Value → H} {w : World} {v : Value} {d : DataW H} {p : List MemPlace} (hv : ∃ A n c, v = .slice A n c)
    (h : DataW.Trod enc Tryd.prog w 0 (fun _ => true) true 46 v d p) :
    ∃ A n c l, v = .slice A n c ∧ Sl eSh w A n c l := by
  obtain ⟨A, n, c, rfl⟩ := hv
  obtain ⟨fuel, hf⟩ := h
  rcases open_slice_fields Tryd.underlying46 Tryd.underlying51 (by kernel_rfl) (by kernel_rfl) hf with ⟨h0, _⟩ | ⟨a, len, cap, m, D, Pl, hcs, _, hlc, hmax, hm, hx, hi⟩
  · simp [Value.cells] at h0
    obtain ⟨rfl, rfl, rfl⟩ := h0
    exact ⟨none, 0, 0, [], rfl, Sl.nil_ _ _⟩
  · simp [Value.cells] at hcs
    obtain ⟨rfl, rfl, rfl⟩ := hcs
    have hm' : m = c := by simpa using hm
    subst hm'
    have hp : ∀ i, ∃ q : Shv, i < n → ∀ j, j < 3 → w.cell? (a.add (i * 3 + j)) = some (eSh.cell q j) := by
      intro i
      by_cases hin : i < n
      · obtain ⟨ys, n', _, _, _, hfs⟩ := hi i (by omega)
        obtain ⟨v0, y0, c0, _, t0⟩ := hfs 0 _ rfl
        obtain ⟨v1, y1, c1, _, t1⟩ := hfs 1 _ rfl
        obtain ⟨v2, y2, c2, _, t2⟩ := hfs 2 _ rfl
        obtain ⟨z0, rfl, _⟩ := pt_int t0
        obtain ⟨z1, rfl, _⟩ := pt_int t1
        obtain ⟨z2, rfl⟩ := pt_text t2
        refine ⟨⟨z0, z1, z2⟩, fun _ j hj => ?_⟩
        rcases (show j = 0 ∨ j = 1 ∨ j = 2 by omega) with rfl | rfl | rfl
        · exact c0
        · exact c1
        · exact c2
      · exact ⟨shv0, fun h => absurd h hin⟩
    obtain ⟨f, hfn⟩ := Classical.axiomOfChoice hp
    refine ⟨some a, n, m, (List.range n).map f, rfl, ⟨by simp, hlc, hmax, fun hn => ?_⟩⟩
    obtain ⟨b, off, spot⟩ := a
    have h00 := hfn 0 hn 0 (by omega)
    have hspot : spot = none := by simpa [Addr.add] using World.cell?_spot h00
    subst hspot
    refine ⟨b, off, rfl, ?_, fun i hi' j hj => ?_⟩
    · rcases Nat.lt_or_ge b w.heap.size with h | h
      · exact h
      · simp [Addr.add, World.cell?, Array.getElem?_eq_none h] at h00
    · have hi'' : i < n := by simpa using hi'
      have := hfn i hi'' j hj
      rw [Go.WideShapes.add_plain] at this
      rw [show off + i * eSh.sz + j = off + (i * 3 + j) by show off + i * 3 + j = _; omega, this]
      simp
end Go.Proofs.YtdpbjigdihajjaaDoor
