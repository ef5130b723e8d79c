/- A slice of things to do on a shelf that came in: its cells, as the walk asks for them. -/
import Derived.Test.YtdpbjigdihajjaaFields
import Derived.Test.YtdpbjigdihajjaaLawTakesW
namespace Go.Proofs.Ytdpbjigdihajjaa
open Go.ChangeShapes Go.WideShapes Go.Deep Go.RowKit

theorem pt_u32 {H : Type} {enc : TypeId × Value → H} {w : World} {base : Nat} {spare : Nat → Bool} {held : Bool} {n : Nat} {v : Value} {y : DataW H × List MemPlace}
    (h : DataW.trod enc Try.prog w base spare held n 52 [v] = some y) : ∃ z : Int, v = .int .u32 z ∧ (Lit.int .u32 z).wf = true := by
  obtain ⟨z, h1, _, h3⟩ := DataW.trod_int Try.underlying52 h
  simp at h1
  exact ⟨z, h1, h3⟩

theorem open_ops {H : Type} {enc : TypeId × Value → H} {w : World} {v : Value} {d : DataW H} {p : List MemPlace} (hv : ∃ A n c, v = .slice A n c)
    (h : DataW.Trod enc Try.prog w 0 (fun _ => true) true 51 v d p) :
    ∃ A n c os, v = .slice A n c ∧ Sl eOp w A n c os ∧ ∀ o ∈ os, 0 ≤ o.2.2 ∧ o.2.2 < 4294967296 := by
  obtain ⟨A, n, c, rfl⟩ := hv
  obtain ⟨fuel, hf⟩ := h
  rcases open_slice_fields Try.underlying51 Try.underlying57 (by kernel_rfl) (by kernel_rfl) hf with ⟨h0, _⟩ | ⟨a, len, cap, m, D, Pl, hcs, _, hlc, hmax, hm, hx, hi⟩
  · simp [Value.cells] at h0
    obtain ⟨rfl, rfl, rfl⟩ := h0
    exact ⟨none, 0, 0, [], rfl, Sl.nil_ _ _, by simp⟩
  · simp [Value.cells] at hcs
    obtain ⟨rfl, rfl, rfl⟩ := hcs
    have hm' : m = c := by simpa using hm
    subst hm'
    have hp : ∀ i, ∃ q : Int × Int × Int, i < n → (∀ j, j < 3 → w.cell? (a.add (i * 3 + j)) = some (eOp.cell q j)) ∧ 0 ≤ q.2.2 ∧ q.2.2 < 4294967296 := by
      intro i
      by_cases hin : i < n
      · obtain ⟨ys, n', _, _, _, hfs⟩ := hi i (by omega)
        obtain ⟨v0, y0, c0, _, t0⟩ := hfs 0 _ rfl
        obtain ⟨v1, y1, c1, _, t1⟩ := hfs 1 _ rfl
        obtain ⟨v2, y2, c2, _, t2⟩ := hfs 2 _ rfl
        obtain ⟨z0, rfl, _⟩ := pt_int t0
        obtain ⟨z1, rfl, _⟩ := pt_int t1
        obtain ⟨z2, rfl, w2⟩ := pt_u32 t2
        have hw := bounds_u32 w2
        refine ⟨(z0, z1, z2), fun _ => ⟨fun j hj => ?_, hw.1, Int.lt_of_le_of_lt hw.2 (by decide)⟩⟩
        rcases (show j = 0 ∨ j = 1 ∨ j = 2 by omega) with rfl | rfl | rfl
        · exact c0
        · exact c1
        · exact c2
      · exact ⟨(0, 0, 0), fun h => absurd h hin⟩
    obtain ⟨f, hfn⟩ := Classical.axiomOfChoice hp
    refine ⟨some a, n, m, (List.range n).map f, rfl, ⟨by simp, hlc, hmax, fun hn => ?_⟩, fun q hq => ?_⟩
    · obtain ⟨b, off, spot⟩ := a
      have h00 := (hfn 0 hn).1 0 (by omega)
      have hspot : spot = none := by simpa [Addr.add] using World.cell?_spot h00
      subst hspot
      refine ⟨b, off, rfl, ?_, fun i hi' j hj => ?_⟩
      · rcases Nat.lt_or_ge b w.heap.size with h | h
        · exact h
        · simp [Addr.add, World.cell?, Array.getElem?_eq_none h] at h00
      · have hi'' : i < n := by simpa using hi'
        have := (hfn i hi'').1 j hj
        rw [Go.WideShapes.add_plain] at this
        rw [show off + i * eOp.sz + j = off + (i * 3 + j) by show off + i * 3 + j = _; omega, this]
        simp
    · obtain ⟨i, hi', rfl⟩ := List.mem_map.1 hq
      exact (hfn i (List.mem_range.1 hi')).2

theorem takes_all (b : Int) (A : Option Addr) (n c : Nat) (ops : List (Int × Int × Int)) (x id : Int) (w : World) (hs : Sl eOp w A n c ops) (hop : ∀ o ∈ ops, 0 ≤ o.2.2 ∧ o.2.2 < 4294967296) (hx : (Lit.int .u32 x).wf = true) :
    Calls Try.prog 4 #[.int .i64 b, .slice A n c, .int .u32 x, .int .i64 id] w fun e w' => e = .returned (.bool true) ∧ Below w.heap.size w w' := by
  have hw := bounds_u32 hx
  rcases Nat.lt_or_ge 60 n with h | h
  · exact takes_many b A n c x id w h hs.2.1 hs.2.2.1
  · exact takes_few b A n c ops x id w hs h hop hw.1 (by omega)
end Go.Proofs.Ytdpbjigdihajjaa
