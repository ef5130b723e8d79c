/- A chain of points that may be: points with extents of their own. -/
import Derived.Test.YtdpbjigdihajjaaDoorFit
import Derived.Test.YtdpbjigdihajjaaDoorMax
import Derived.Test.YtdpbjigdihajjaaDoorBookOwn
namespace Go.Proofs.YtdpbjigdihajjaaDoor
open Go.RowKit

/-- Points, each with extents of its own, in a row of the call's own. -/
structure Pts (w : World) (B : Nat) (V : Value) (qs : List Pt) : Prop where
  own : Own ePt 79 w B V qs
  ext : ∀ q ∈ qs, ∃ es, Own eE 81 w B (.slice q.eA q.eN q.eC) es ∧ Fine es
  apart : ∀ q ∈ qs, ∀ k, (Value.slice q.eA q.eN q.eC).ownBlock = some k → V.ownBlock ≠ some k
variable {w w' : World} {B : Nat} {V V' : Value} {qs : List Pt}
theorem Pts.nil (w : World) (B : Nat) : Pts w B (.slice none 0 0) [] := ⟨Own.nil _ _ _ _, fun q h => by simp at h, fun q h => by simp at h⟩
theorem Pts.below (h : Pts w B V qs) (hb : Below w.heap.size w w') : Pts w' B V qs :=
  ⟨h.own.below hb, fun q hq => by
    obtain ⟨es, h1, h2⟩ := h.ext q hq
    exact ⟨es, h1.below hb, h2⟩, h.apart⟩
theorem Pts.snoc (h : Pts w B V qs) {q : Pt} {es : List Ext} {w0 : World} (he : Own eE 81 w w0.heap.size (.slice q.eA q.eN q.eC) es) (hf : Fine es) (h0 : ∀ k, V.ownBlock = some k → k < w0.heap.size) (hB : B ≤ w0.heap.size)
    {o : Obj} (ho : Own ePt 79 w' B V' (qs ++ [q])) (hg : (w.alloc o).grownBy w' V.ownBlock) (hl : V'.ownBlock = V.ownBlock ∨ V'.ownBlock = some (w.heap.size + 1)) : Pts w' B V' (qs ++ [q]) := by
  have hal : (w.alloc o).heap.size = w.heap.size + 1 := by show (w.heap.push o).size = _; simp
  have keep : ∀ k, k < w.heap.size → V.ownBlock ≠ some k → w'.heap[k]? = w.heap[k]? := fun k h1 h2 => (hg.block k (by omega) fun e => h2 e.symm).trans (Below.heap_alloc w o k h1)
  have qV : ∀ k, (Value.slice q.eA q.eN q.eC).ownBlock = some k → V.ownBlock ≠ some k := fun k h1 h2 => by
    have := (he.lt k h1).1
    have := h0 k h2
    omega
  have nV : ∀ k, k < w.heap.size → V.ownBlock ≠ some k → V'.ownBlock ≠ some k := fun k h1 h2 h3 => by
    rcases hl with l | l
    · exact h2 (l ▸ h3)
    · rw [l] at h3; injection h3 with h3; omega
  refine ⟨ho, fun p hp => ?_, fun p hp k hk => ?_⟩
  · rcases List.mem_append.1 hp with hp | hp
    · obtain ⟨es', h1, h2⟩ := h.ext p hp
      exact ⟨es', h1.same_block fun k hk => keep k (h1.lt k hk).2 (h.apart p hp k hk), h2⟩
    · simp only [List.mem_singleton] at hp
      subst hp
      exact ⟨es, (he.lower hB).same_block fun k hk => keep k (he.lt k hk).2 (qV k hk), hf⟩
  · rcases List.mem_append.1 hp with hp | hp
    · obtain ⟨es', h1, _⟩ := h.ext p hp
      exact nV k (h1.lt k hk).2 (h.apart p hp k hk)
    · simp only [List.mem_singleton] at hp
      subst hp
      exact nV k (he.lt k hk).2 (qV k hk)
end Go.Proofs.YtdpbjigdihajjaaDoor
