/- The book's lists are grown: what holds of all of them. -/
import Derived.Test.YtdpbjigdihajjaaBookE
namespace Go.Proofs.Ytdpbjigdihajjaa
open Go.RowKit

structure GrowsInv (w wr : World) (B : Nat) (X : Value) (vs : List Value) (Ls : List (List Int)) (k : Nat) (G : Value) (gs : List Value) : Prop where
  n : gs.length = k
  outer : Own eV 40 wr B X vs
  rest : ∀ i (h : i < vs.length) (h' : i < Ls.length), k ≤ i → Own eI 3 wr B vs[i] Ls[i]
  olds : ∀ i (h : i < vs.length) (h' : i < Ls.length), i < k → ∃ A c, vs[i] = .slice A Ls[i].length c ∧ Sl eI wr A Ls[i].length c Ls[i]
  news : ∀ i (h : i < gs.length) (h' : i < Ls.length), ∃ A c, gs[i] = .slice A (Ls[i].length + 72) c ∧ Sl eI wr A (Ls[i].length + 72) c (marks i 0 (Ls[i].length + 72))
  lie : ∀ i (h : i < gs.length) (h' : i < vs.length) q, gs[i].ownBlock = some q → (vs[i].ownBlock = some q ∨ w.heap.size ≤ q) ∧ G.ownBlock ≠ some q ∧ q < wr.heap.size
  gown : Own eV 40 wr w.heap.size G gs
  size : w.heap.size ≤ wr.heap.size
theorem GrowsInv.start {w : World} {B : Nat} {X : Value} {vs : List Value} {Ls : List (List Int)} (h : RowsI w B X vs Ls) : GrowsInv w w B X vs Ls 0 (.slice none 0 0) [] :=
  ⟨rfl, h.outer, fun i h1 h2 _ => h.inner i h1 h2, fun i _ _ h3 => by omega, fun i h1 => by simp at h1, fun i h1 => by simp at h1, Own.nil _ _ _ _, Nat.le_refl _⟩
theorem off0 {α : Type} {E : Enc α} {e : TypeId} {w : World} {B : Nat} {v : Value} {L : List α} (h : Own E e w B v L) : ∀ A n c, v = .slice A n c → ∀ b off, A = some ⟨b, off, none⟩ → off = 0 := by
  rintro A n c rfl b off rfl
  rcases h.shape with ⟨h1, _⟩ | ⟨g, cap, h1, _⟩
  · injection h1 with h1; cases h1
  · injection h1 with h1
    injection h1 with h1
    injection h1
variable {w wr w6 w8 : World} {B : Nat} {X : Value} {vs : List Value} {Ls : List (List Int)} {k : Nat} {G : Value} {gs : List Value}
theorem GrowsInv.gown6 (hR : RowsI w B X vs Ls) (h : GrowsInv w wr B X vs Ls k G gs) (hk : k < vs.length) (hk' : k < Ls.length) {s : Value} {M : List Int} (hg : GrowAt eI 3 wr w6 B vs[k] s Ls[k] M) : Own eV 40 w6 w.heap.size G gs :=
  h.gown.same_block fun q hq => hg.same q (h.gown.lt q hq).2 fun e => by
    have h1 := (h.gown.lt q hq).1
    have h2 := ((hR.inner k hk hk').lt q e).2
    omega
theorem GrowsInv.step (hR : RowsI w B X vs Ls) (h : GrowsInv w wr B X vs Ls k G gs) (hk : k < vs.length) (hk' : k < Ls.length) {s : Value} (hg : GrowAt eI 3 wr w6 B vs[k] s Ls[k] (marks k 0 (Ls[k].length + 72)))
    {G' : Value} {o : Obj} (ho : Own eV 40 w8 w.heap.size G' (gs ++ [s])) (hgr : (w6.alloc o).grownBy w8 G.ownBlock) (hloc : G'.ownBlock = G.ownBlock ∨ G'.ownBlock = some (w6.heap.size + 1)) : GrowsInv w w8 B X vs Ls (k + 1) G' (gs ++ [s]) := by
  have hal : (w6.alloc o).heap.size = w6.heap.size + 1 := by show (w6.heap.push o).size = _; simp
  have hs8 : w6.heap.size + 1 ≤ w8.heap.size := hal ▸ hgr.size
  have k6 : ∀ q, q < w6.heap.size → G.ownBlock ≠ some q → w8.heap[q]? = w6.heap[q]? := fun q hq hq2 => (hgr.block q (by omega) fun e => hq2 e.symm).trans (Below.heap_alloc w6 o q hq)
  have kr : ∀ q, q < wr.heap.size → vs[k].ownBlock ≠ some q → G.ownBlock ≠ some q → w8.heap[q]? = wr.heap[q]? := fun q h1 h2 h3 => (k6 q (Nat.lt_of_lt_of_le h1 hg.size) h3).trans (hg.same q h1 h2)
  have hnG : ∀ q, q < w.heap.size → G.ownBlock ≠ some q := fun q hq e => by have := (h.gown.lt q e).1; omega
  have hn := h.n
  have hvk : ∀ q, vs[k].ownBlock = some q → q < w.heap.size := fun q hq => ((hR.inner k hk hk').lt q hq).2
  have hlie : ∀ q, s.ownBlock = some q → (vs[k].ownBlock = some q ∨ w.heap.size ≤ q) ∧ G.ownBlock ≠ some q ∧ q < w6.heap.size := by
    intro q hq
    have hlt := (hg.own.lt q hq).2
    rcases hg.place with hp | hp
    · rw [hp] at hq
      exact ⟨.inl hq, hnG q (hvk q hq), hlt⟩
    · have := hp q hq
      exact ⟨.inr (Nat.le_trans h.size this), fun e => by have := (h.gown.lt q e).2; omega, hlt⟩
  have hG' : ∀ q, q < w6.heap.size → G.ownBlock ≠ some q → G'.ownBlock ≠ some q := by
    intro q hq hq2 e
    rcases hloc with h1 | h1
    · exact hq2 (h1 ▸ e)
    · rw [h1] at e; injection e with e; omega
  have hsz := hg.size
  have hsw := h.size
  refine ⟨by simp [hn], h.outer.same_block fun q hq => kr q (h.outer.lt q hq).2 (fun e => hR.apart k hk q e hq) (hnG q (hR.outer.lt q hq).2), fun i h1 h2 h3 => (h.rest i h1 h2 (by omega)).same_block fun q hq => ?_, fun i h1 h2 h3 => ?_, fun i h1 h2 => ?_, fun i h1 h2 q hq => ?_, ho, by omega⟩
  · have hq2 := ((hR.inner i h1 h2).lt q hq).2
    exact kr q (by omega) (fun e => hR.dist k i hk h1 (by omega) q e hq) (hnG q hq2)
  · by_cases e : i = k
    · subst e
      obtain ⟨A, c, h4, h5⟩ := hg.sl
      exact ⟨A, c, h4, h5.same_block (by omega) fun q hq => by
        have := hvk q (by rw [h4]; exact hq)
        exact k6 q (by omega) (hnG q this)⟩
    · obtain ⟨A, c, h4, h5⟩ := h.olds i h1 h2 (by omega)
      exact ⟨A, c, h4, h5.same_block (by omega) fun q hq => by
        have hq1 : vs[i].ownBlock = some q := by rw [h4]; exact hq
        have := ((hR.inner i h1 h2).lt q hq1).2
        exact kr q (by omega) (fun e' => hR.dist k i hk h1 (fun e2 => e e2.symm) q e' hq1) (hnG q this)⟩
  · by_cases e : i < k
    · have hi : i < gs.length := by omega
      obtain ⟨A, c, h4, h5⟩ := h.news i hi h2
      rw [List.getElem_append_left hi]
      refine ⟨A, c, h4, h5.same_block (by omega) fun q hq => ?_⟩
      have hq1 : gs[i].ownBlock = some q := by rw [h4]; exact hq
      obtain ⟨h6, h7, h8⟩ := h.lie i hi (by omega) q hq1
      refine kr q h8 (fun e' => ?_) h7
      rcases h6 with h6 | h6
      · exact hR.dist k i hk (by omega) (by omega) q e' h6
      · have := hvk q e'; omega
    · have e' : i = k := by simp at h1; omega
      subst e'
      have hi : (gs ++ [s])[i]'h1 = s := by rw [List.getElem_append_right (by omega)]; simp
      rw [hi]
      obtain ⟨A, c, h4, h5, _⟩ := hg.own.sl
      rw [marks_len] at h4 h5
      exact ⟨A, c, h4, h5.same_block (by omega) fun q hq => by
        obtain ⟨_, h7, h8⟩ := hlie q (by rw [h4]; exact hq)
        exact k6 q h8 h7⟩
  · by_cases e : i < k
    · have hi : i < gs.length := by omega
      rw [List.getElem_append_left hi] at hq
      obtain ⟨h6, h7, h8⟩ := h.lie i hi h2 q hq
      exact ⟨h6, hG' q (by omega) h7, by omega⟩
    · have e' : i = k := by simp at h1; omega
      subst e'
      have hi : (gs ++ [s])[i]'h1 = s := by rw [List.getElem_append_right (by omega)]; simp
      rw [hi] at hq
      obtain ⟨h6, h7, h8⟩ := hlie q hq
      exact ⟨h6, hG' q h8 h7, by omega⟩
/-- What the lists are, grown. -/
def grownInts (Ls : List (List Int)) : List (List Int) := (List.range Ls.length).map fun i => marks i 0 ((Ls.getD i []).length + 72)
theorem grownInts_len : (grownInts Ls).length = Ls.length := by simp [grownInts]
theorem grownInts_at {i : Nat} (h : i < Ls.length) (h' : i < (grownInts Ls).length) : (grownInts Ls)[i] = marks i 0 (Ls[i].length + 72) := by
  have h2 : (grownInts Ls)[i]? = some (marks i 0 (Ls[i].length + 72)) := by
    unfold grownInts
    rw [List.getElem?_map, List.getElem?_range h, Option.map_some, getD_at h]
  rw [List.getElem?_eq_getElem h'] at h2
  exact Option.some.inj h2
theorem grownInts_marked : Marked (grownInts Ls) := fun i h => by
  have h' : i < Ls.length := by rw [grownInts_len] at h; exact h
  rw [grownInts_at h' h, marks_len]
theorem GrowsInv.done (h : GrowsInv w wr B X vs Ls k G gs) (hn : vs.length = Ls.length) (hk : k = vs.length) : ReadI wr X vs Ls ∧ ReadI wr G gs (grownInts Ls) := by
  obtain ⟨A, c, h1, h2, _⟩ := h.outer.sl
  obtain ⟨A', c', h3, h4, _⟩ := h.gown.sl
  refine ⟨⟨A, c, h1, h2, hn, fun i h5 h6 => h.olds i h5 h6 (by omega)⟩, ⟨A', c', h3, h4, by rw [grownInts_len, h.n]; omega, fun i h5 h6 => ?_⟩⟩
  have h7 : i < Ls.length := by rw [grownInts_len] at h6; exact h6
  rw [grownInts_at h7 h6, marks_len]
  exact h.news i h5 h7
end Go.Proofs.Ytdpbjigdihajjaa
