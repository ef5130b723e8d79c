/- The book's lists are grown: what stays. -/
import Derived.Test.YtdpbjigdihajjaaBookD
namespace Go.Proofs.Ytdpbjigdihajjaa
open Go.RowKit

theorem Sl.same_block {α : Type} {E : Enc α} {w w' : World} {A : Option Addr} {n c : Nat} {xs : List α} (h : Sl E w A n c xs) (hs : w.heap.size ≤ w'.heap.size) (hb : ∀ k, (Value.slice A n c).ownBlock = some k → w'.heap[k]? = w.heap[k]?) : Sl E w' A n c xs := by
  obtain ⟨h1, h2, h3, h4⟩ := h
  refine ⟨h1, h2, h3, fun h0 => ?_⟩
  obtain ⟨b, off, rfl, hlt, hr⟩ := h4 h0
  refine ⟨b, off, rfl, by omega, fun i hi j hj => ?_⟩
  rw [World.cell?_of_block (a := ⟨b, _, none⟩) (hb b rfl)]
  exact hr i hi j hj

section
variable {α : Type} {E : Enc α} {e : TypeId}
/-- A row grows: v is the row as it was (with L), s is the row so far (with M). -/
structure GrowAt (E : Enc α) (e : TypeId) (w0 w : World) (B : Nat) (v s : Value) (L M : List α) : Prop where
  own : Own E e w B s M
  pre : M.take L.length = L
  le : L.length ≤ M.length
  sl : ∃ A c, v = .slice A L.length c ∧ Sl E w A L.length c L
  place : s.ownBlock = v.ownBlock ∨ ∀ q, s.ownBlock = some q → w0.heap.size ≤ q
  lt : ∀ q, v.ownBlock = some q → q < w0.heap.size
  size : w0.heap.size ≤ w.heap.size
  same : ∀ q, q < w0.heap.size → v.ownBlock ≠ some q → w.heap[q]? = w0.heap[q]?
theorem GrowAt.start {w : World} {B : Nat} {v : Value} {L : List α} (h : Own E e w B v L) : GrowAt E e w w B v v L L := by
  obtain ⟨A, c, h1, h2, _⟩ := h.sl
  exact ⟨h, by simp, Nat.le_refl _, ⟨A, c, h1, h2⟩, .inl rfl, fun q hq => (h.lt q hq).2, Nat.le_refl _, fun _ _ _ => rfl⟩
theorem GrowAt.below {w0 w w' : World} {B : Nat} {v s : Value} {L M : List α} (h : GrowAt E e w0 w B v s L M) (hb : Below w.heap.size w w') : GrowAt E e w0 w' B v s L M := by
  obtain ⟨A, c, h1, h2⟩ := h.sl
  exact ⟨h.own.below hb, h.pre, h.le, ⟨A, c, h1, h2.below hb⟩, h.place, h.lt, Nat.le_trans h.size hb.size, fun q hq hq2 => (hb.block q (Nat.lt_of_lt_of_le hq h.size)).trans (h.same q hq hq2)⟩
/-- One row lies at the head of another one in the same block. -/
theorem Sl.head {w : World} {B : Nat} {A : Option Addr} {n c : Nat} {L M : List α} {w1 : World} {s : Value} (h : Sl E w A n c L) (ho : Own E e w1 B s M) (hA : ∀ b off, A = some ⟨b, off, none⟩ → off = 0) (hs : s.ownBlock = (Value.slice A n c).ownBlock) (hp : M.take L.length = L) (hle : L.length ≤ M.length) : Sl E w1 A n c L := by
  obtain ⟨h1, h2, h3, h4⟩ := h
  refine ⟨h1, h2, h3, fun h0 => ?_⟩
  obtain ⟨b, off, rfl, hlt, hr⟩ := h4 h0
  obtain rfl := hA b off rfl
  rcases ho.shape with ⟨rfl, h5⟩ | ⟨g, cap, rfl, hg1, hg2, hg3, hg4⟩
  · subst h5; have : L.length ≤ 0 := hle; omega
  · have : g = b := by
      have h9 : some g = some b := hs
      injection h9
    subst this
    refine ⟨g, 0, rfl, hg2, fun i hi j hj => ?_⟩
    rw [ho.cell (i := i) (by omega) hj]
    have : M[i]'(by omega) = L[i] := by
      have h8 := congrArg (fun l : List α => l[i]?) hp
      simp only [List.getElem?_take_of_lt hi] at h8
      rw [List.getElem?_eq_getElem (by omega), List.getElem?_eq_getElem hi] at h8
      injection h8
    rw [this]
theorem GrowAt.app {w0 w w1 : World} {B : Nat} {v s s' : Value} {L M ys : List α} (h : GrowAt E e w0 w B v s L M) (hv : ∀ A n c, v = .slice A n c → ∀ b off, A = some ⟨b, off, none⟩ → off = 0)
    (ho : Own E e w1 B s' (M ++ ys)) (hg : (s'.ownBlock = s.ownBlock ∧ w.grownBy w1 s.ownBlock) ∨ (Own E e w1 w.heap.size s' (M ++ ys) ∧ w.grownBy w1 none)) : GrowAt E e w0 w1 B v s' L (M ++ ys) := by
  obtain ⟨A, c, h1, h2⟩ := h.sl
  have hpre : (M ++ ys).take L.length = L := by rw [List.take_append_of_le_length h.le]; exact h.pre
  have hle : L.length ≤ (M ++ ys).length := by rw [List.length_append]; exact Nat.le_trans h.le (Nat.le_add_right _ _)
  rcases hg with ⟨h3, h4⟩ | ⟨h3, h4⟩
  · have hsz := h4.size
    refine ⟨ho, hpre, hle, ⟨A, c, h1, ?_⟩, by rw [h3]; exact h.place, h.lt, Nat.le_trans h.size hsz, fun q hq hq2 => (h4.block q (Nat.lt_of_lt_of_le hq h.size) ?_).trans (h.same q hq hq2)⟩
    · rcases h.place with h5 | h5
      · exact h2.head ho (hv A _ c h1) (by rw [h3, h5, h1]) hpre hle
      · refine h2.same_block hsz fun k hk => h4.block k ?_ fun e' => ?_
        · exact Nat.lt_of_lt_of_le (h.lt k (by rw [h1]; exact hk)) h.size
        · have := h5 k e'.symm
          have := h.lt k (by rw [h1]; exact hk)
          omega
    · intro e'
      rcases h.place with h5 | h5
      · exact hq2 (h5 ▸ e'.symm)
      · have := h5 q e'.symm; omega
  · have hsz := h4.size
    exact ⟨ho, hpre, hle, ⟨A, c, h1, h2.same_block hsz fun k hk => h4.block k (Nat.lt_of_lt_of_le (h.lt k (by rw [h1]; exact hk)) h.size) (by simp)⟩, .inr fun q hq => Nat.le_trans h.size (h3.lt q hq).1, h.lt, Nat.le_trans h.size hsz, fun q hq hq2 => (h4.block q (Nat.lt_of_lt_of_le hq h.size) (by simp)).trans (h.same q hq hq2)⟩
end
end Go.Proofs.Ytdpbjigdihajjaa
