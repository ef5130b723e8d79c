/- A chain of points that may be: what it is made of. UNDER WAY. -/
import Derived.Test.YtdpbjigdihajjaaDoorArrF
import Derived.Test.YtdpbjigdihajjaaDoorExtIds
import Derived.Test.YtdpbjigdihajjaaDoorLight
namespace Go.Proofs.YtdpbjigdihajjaaDoor
open Go.RowKit

/-- Extents as the laws make them. -/
def Fine (es : List Ext) : Prop := es.length ≤ 64 ∧ ∀ x ∈ es, 0 ≤ x.from_ ∧ 1 ≤ x.n ∧ x.from_ + x.n ≤ 64 ∧ 0 ≤ x.id ∧ (x.id ≠ 0 → x.id + x.n ≤ 61)
theorem Fine.good {es : List Ext} (h : Fine es) : GoodE es := fun x hx => by
  obtain ⟨h1, h2, h3, h4, h5⟩ := h.2 x hx
  refine ⟨h1, h2, h3, h4, ?_⟩
  by_cases e : x.id = 0
  · omega
  · have := h5 e; omega
theorem exts_fine (L : List Int) (hb : ∀ k, -1 ≤ L.getD k 0 ∧ L.getD k 0 ≤ 60) : Fine (extsL L 64) := by
  refine ⟨extsL_le L 64, fun x hx => ?_⟩
  obtain ⟨h1, h2, h3, h4, h5⟩ := (tidy_ext L hb 64 (by omega)).good x hx
  refine ⟨h1, h2, by omega, h4, fun e => ?_⟩
  rw [if_neg e] at h5
  omega
theorem ids_fine {es : List Ext} (h : Fine es) : ∀ i ∈ idsL es, 1 ≤ i ∧ i ≤ 60 := by
  intro i hi
  obtain ⟨x, hx, hm⟩ := List.mem_flatMap.1 hi
  obtain ⟨h1, h2, h3, h4, h5⟩ := h.2 x hx
  unfold idsX at hm
  split at hm
  · rename_i h6
    obtain ⟨j, hj, rfl⟩ := List.mem_map.1 hm
    have := List.mem_range.1 hj
    have := h5 (by omega)
    omega
  · simp at hm
/-- The numbers of a map are within the pool. -/
def InPool (L : List Int) : Prop := ∀ k, -1 ≤ L.getD k 0 ∧ L.getD k 0 ≤ 60
theorem InPool.set {L : List Int} (h : InPool L) (j : Nat) (v : Int) (hv : -1 ≤ v ∧ v ≤ 60) : InPool (L.set j v) := fun k => by
  rw [List.getD_eq_getElem?_getD, List.getElem?_set]
  by_cases e : j = k
  · subst e
    rw [if_pos rfl]
    split
    · exact hv
    · simp
  · rw [if_neg e, ← List.getD_eq_getElem?_getD]
    exact h k
theorem InPool.none : InPool (noneL 64) := fun k => by
  rw [List.getD_eq_getElem?_getD, noneL_at (by omega)]
  by_cases h1 : k < 64
  · rw [if_pos h1]; decide
  · rw [if_neg h1, if_neg h1]; decide
theorem InPool.setTo {L : List Int} (h : InPool L) (f : Nat) (i : Int) (n : Nat) (hn : 0 < i → i + n ≤ 61) : InPool (setTo L f i n) := by
  have key : ∀ k, k ≤ n → InPool (Go.Proofs.YtdpbjigdihajjaaDoor.setTo L f i k) := by
    intro k
    induction k with
    | zero => intro _; exact h
    | succ k ih =>
      intro hk
      have := ih (by omega)
      show InPool ((Go.Proofs.YtdpbjigdihajjaaDoor.setTo L f i k).set (f + k) (if 0 < i then i + k else 0))
      refine this.set _ _ ?_
      split
      · rename_i h1; have := hn h1; omega
      · omega
  exact key n (Nat.le_refl _)
theorem InPool.setL {L : List Int} (h : InPool L) (f n i : Int) : InPool (setL L f n i) := by
  unfold Go.Proofs.YtdpbjigdihajjaaDoor.setL
  split
  · rename_i ha
    unfold aloneB wholeB at ha
    simp at ha
    refine h.setTo _ _ _ fun h1 => ?_
    omega
  · exact h
theorem InPool.ofL (es : List Ext) : InPool (ofL es) := by
  unfold Go.Proofs.YtdpbjigdihajjaaDoor.ofL
  have key : ∀ (es : List Ext) (m : List Int), InPool m → InPool (es.foldl (fun m x => Go.Proofs.YtdpbjigdihajjaaDoor.setL m x.from_ x.n x.id) m) := by
    intro es
    induction es with
    | nil => intro m h; exact h
    | cons x es ih => intro m h; exact ih _ (h.setL _ _ _)
  exact key es _ InPool.none
end Go.Proofs.YtdpbjigdihajjaaDoor
