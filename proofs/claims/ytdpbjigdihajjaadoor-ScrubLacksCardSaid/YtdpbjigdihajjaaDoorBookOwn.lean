/- A row is as it was where its block is. -/
import Derived.Test.YtdpbjigdihajjaaDoorOwn
namespace Go.Proofs.YtdpbjigdihajjaaDoor
open Go.RowKit

theorem Own.same_block {α : Type} {E : Enc α} {e : TypeId} {w w' : World} {base : Nat} {v : Value} {xs : List α} (h : Own E e w base v xs) (hb : ∀ k, v.ownBlock = some k → w'.heap[k]? = w.heap[k]?) : Own E e w' base v xs := by
  obtain ⟨h1, h2⟩ := h
  refine ⟨h1, ?_⟩
  rcases h2 with h2 | ⟨g, cap, cur, rfl, hg, hh, r⟩
  · exact .inl h2
  · exact .inr ⟨g, cap, cur, rfl, hg, (hb g rfl).trans hh, r⟩
end Go.Proofs.YtdpbjigdihajjaaDoor
