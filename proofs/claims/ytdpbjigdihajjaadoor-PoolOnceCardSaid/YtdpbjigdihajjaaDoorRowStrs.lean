/- A slice of texts that came in: its cells, as the walk asks for them. -/
import Derived.Test.YtdpbjigdihajjaaDoorLawOnceW
import Derived.SliceStrings
import Derived.ChangeSame
import Derived.ProofKit
import Derived.OpenShut
namespace Go.Proofs.YtdpbjigdihajjaaDoor
open Go.ChangeShapes Go.WideShapes Go.RowKit

theorem open_strs {H : Type} {enc : TypeId × Value → H} {w : World} {v : Value} {d : DataW H} {p : List MemPlace} (hv : ∃ A n c, v = .slice A n c)
    (h : DataW.Trod enc Tryd.prog w 0 (fun _ => true) true 33 v d p) : ∃ A n c l, v = .slice A n c ∧ Sl eS w A n c l := by
  obtain ⟨A, n, c, rfl⟩ := hv
  obtain ⟨fuel, hf⟩ := h
  rcases open_strings Tryd.underlying33 Tryd.underlying9 (by kernel_rfl) hf with ⟨h0, _⟩ | ⟨a, len, cap, ss, hcs, _, hlc, hmax, hss, hx, hi, _⟩
  · simp [Value.cells] at h0
    obtain ⟨rfl, rfl, rfl⟩ := h0
    exact ⟨none, 0, 0, [], rfl, Sl.nil_ _ _⟩
  · simp [Value.cells] at hcs
    obtain ⟨rfl, rfl, rfl⟩ := hcs
    have hlen : ss.length = c := by simpa using hss
    refine ⟨some a, n, c, ss.take n, rfl, by rw [List.length_take]; omega, hlc, hmax, fun hn => ?_⟩
    obtain ⟨b, off, spot⟩ := a
    have h00 := hi 0 (by omega)
    have hspot : spot = none := by simpa [Addr.add] using World.cell?_spot h00
    subst hspot
    refine ⟨b, off, rfl, ?_, fun i hi' j hj => ?_⟩
    · rcases Nat.lt_or_ge b w.heap.size with h | h
      · exact h
      · simp [Addr.add, World.cell?, Array.getElem?_eq_none h] at h00
    · have hi2 : i < ss.length := by rw [List.length_take] at hi'; omega
      have hj0 : j = 0 := by have : j < 1 := hj; omega
      subst hj0
      have := hi i hi2
      rw [Go.WideShapes.add_plain] at this
      rw [show off + i * eS.sz + 0 = off + i by show off + i * 1 + 0 = _; omega, this]
      simp [eS, List.getD, List.getElem?_eq_getElem hi2]
theorem once_all (A : Option Addr) (n c : Nat) (l : List ByteArray) (w : World) (hs : Sl eS w A n c l) :
    Calls Tryd.prog 4 #[.slice A n c] w fun e w' => e = .returned (.bool true) ∧ Below w.heap.size w w' := by
  rcases Nat.lt_or_ge 50 n with h | h
  · exact once_many A n c w h
  · exact once_few A n c l w hs h
end Go.Proofs.YtdpbjigdihajjaaDoor
