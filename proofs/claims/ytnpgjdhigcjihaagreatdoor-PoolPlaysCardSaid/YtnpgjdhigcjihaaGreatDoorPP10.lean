/- Joined texts: BkA, BkB, BkC, BkEA, BkEB, BkSA, BkSB, BkSK. -/
import Derived.Test.YtnpgjdhigcjihaaGreatDoorPP03
import Derived.Test.YtnpgjdhigcjihaaGreatDoorPP04
import Derived.Test.YtnpgjdhigcjihaaGreatDoorPP09
import Derived.Deep.RegionHeld3
/- The book's lists, of every kind: rows of rows; marks are put; they are grown; one more list comes. -/
namespace Go.Proofs.YtnpgjdhigcjihaaGreatDoor
open Go.RowKit

def kV : Enc Value := ⟨1, fun v _ => v⟩
theorem kV_one (v : Value) (h : v.oneCell' = true) : ∀ u ∈ (#[v] : Array Value).toList, u.oneCell' = true := by
  intro u hu
  simp at hu
  subst hu
  exact h
section
variable {α : Type} {E : Enc α} {e T TT : TypeId} {mk : Nat → Int → α}
theorem ksl {w : World} {B : Nat} {A : Option Addr} {n c : Nat} {L : List α} (h : Own E e w B (.slice A n c) L) : Sl E w A n c L := by
  obtain ⟨A', c', hv, hs, _⟩ := h.sl
  injection hv with h1 h2 h3
  subst h1 h2 h3
  exact hs
/-- The marks of a list's places from so-and-so on. -/
def mks (mk : Nat → Int → α) (i f n : Nat) : List α := (List.range n).map fun k : Nat => mk i ((f : Int) + (k : Int))
theorem mks_len (i f n : Nat) : (mks mk i f n).length = n := by simp [mks]
theorem mks_succ (i f n : Nat) : mks mk i f (n + 1) = mks mk i f n ++ [mk i ((f : Int) + (n : Int))] := by simp [mks, List.range_succ]
theorem mks_app (i f n m : Nat) : mks mk i f n ++ mks mk i (f + n) m = mks mk i f (n + m) := by
  unfold mks
  rw [List.range_add, List.map_append, List.map_map]
  congr 1
  apply List.map_congr_left
  intro k _
  simp only [Function.comp]
  congr 1
  omega
/-- Each list is marked. -/
def KMarked (mk : Nat → Int → α) (Ls : List (List α)) : Prop := ∀ i (h : i < Ls.length), Ls[i] = mks mk i 0 Ls[i].length
/-- Rows of numbers, each in a block of its own, in a row of their own. -/
structure KRows (E : Enc α) (T TT : TypeId) (w : World) (B : Nat) (X : Value) (vs : List Value) (Ls : List (List α)) : Prop where
  outer : Own kV TT w B X vs
  n : vs.length = Ls.length
  inner : ∀ i (h : i < vs.length) (h' : i < Ls.length), Own E T w B vs[i] Ls[i]
  apart : ∀ i (h : i < vs.length) k, vs[i].ownBlock = some k → X.ownBlock ≠ some k
  dist : ∀ i j (h : i < vs.length) (h' : j < vs.length), i ≠ j → ∀ k, vs[i].ownBlock = some k → vs[j].ownBlock ≠ some k
/-- Rows of numbers that can be read. -/
def KRead (E : Enc α) (w : World) (X : Value) (vs : List Value) (Ls : List (List α)) : Prop :=
  ∃ A c, X = .slice A vs.length c ∧ Sl kV w A vs.length c vs ∧ vs.length = Ls.length ∧ ∀ i (h : i < vs.length) (h' : i < Ls.length), ∃ A c, vs[i] = .slice A Ls[i].length c ∧ Sl E w A Ls[i].length c Ls[i]
theorem KRows.read {w : World} {B : Nat} {X : Value} {vs : List Value} {Ls : List (List α)} (h : KRows E T TT w B X vs Ls) : KRead E w X vs Ls := by
  obtain ⟨A, c, h1, h2, _⟩ := h.outer.sl
  refine ⟨A, c, h1, h2, h.n, fun i h3 h4 => ?_⟩
  obtain ⟨A', c', h5, h6, _⟩ := (h.inner i h3 h4).sl
  exact ⟨A', c', h5, h6⟩
theorem KRead.below {w w' : World} {X : Value} {vs : List Value} {Ls : List (List α)} (h : KRead E w X vs Ls) (hb : Below w.heap.size w w') : KRead E w' X vs Ls := by
  obtain ⟨A, c, h1, h2, h3, h4⟩ := h
  refine ⟨A, c, h1, h2.below hb, h3, fun i h5 h6 => ?_⟩
  obtain ⟨A', c', h7, h8⟩ := h4 i h5 h6
  exact ⟨A', c', h7, h8.below hb⟩
theorem KRead.drewN {w : World} {X : Value} {vs : List Value} {Ls : List (List α)} (h : KRead E w X vs Ls) (n : Nat) : KRead E (w.drewN n) X vs Ls := h


theorem KRows.kept {w w' : World} {B : Nat} {X : Value} {vs : List Value} {Ls : List (List α)} (h : KRows E T TT w B X vs Ls) (hb : ∀ k, k < w.heap.size → w'.heap[k]? = w.heap[k]?) : KRows E T TT w' B X vs Ls :=
  ⟨h.outer.same_block fun k hk => hb k (h.outer.lt k hk).2, h.n, fun i h1 h2 => (h.inner i h1 h2).same_block fun k hk => hb k ((h.inner i h1 h2).lt k hk).2, h.apart, h.dist⟩
theorem KRows.drew {w : World} {B : Nat} {X : Value} {vs : List Value} {Ls : List (List α)} (h : KRows E T TT w B X vs Ls) : KRows E T TT w.drew B X vs Ls := h.kept fun _ _ => rfl
theorem KRows.below {w w' : World} {B : Nat} {X : Value} {vs : List Value} {Ls : List (List α)} (h : KRows E T TT w B X vs Ls) (hb : Below w.heap.size w w') : KRows E T TT w' B X vs Ls := h.kept fun k hk => hb.block k hk

/-- So far the mks mk are put. -/
def KPut (mk : Nat → Int → α) (Ls Ms : List (List α)) (k j : Nat) : Prop :=
  Ms.length = Ls.length ∧ (∀ i, (Ms.getD i []).length = (Ls.getD i []).length) ∧ (∀ i, i < k → Ms.getD i [] = mks mk i 0 (Ls.getD i []).length) ∧ ∀ q, q < j → (Ms.getD k [])[q]? = (mks mk k 0 (Ls.getD k []).length)[q]?
theorem kgetD_at {Ms : List (List α)} {k : Nat} (h : k < Ms.length) : Ms.getD k [] = Ms[k] := by rw [List.getD_eq_getElem?_getD, List.getElem?_eq_getElem h, Option.getD_some]
theorem KPut.start (Ls : List (List α)) : KPut mk Ls Ls 0 0 := ⟨rfl, fun _ => rfl, fun i h => by omega, fun q h => by omega⟩
theorem KPut.step {Ls Ms : List (List α)} {k j : Nat} (h : KPut mk Ls Ms k j) (hk : k < Ms.length) (hj : j < Ms[k].length) : KPut mk Ls (Ms.set k (Ms[k].set j (mk k ((0 : Nat) + (j : Int))))) k (j + 1) := by
  obtain ⟨h1, h2, h3, h4⟩ := h
  have hs : (Ms.set k (Ms[k].set j (mk k ((0 : Nat) + (j : Int))))).getD k [] = Ms[k].set j (mk k ((0 : Nat) + (j : Int))) := by
    rw [List.getD_eq_getElem?_getD, List.getElem?_set_self hk, Option.getD_some]
  have ho : ∀ i, i ≠ k → (Ms.set k (Ms[k].set j (mk k ((0 : Nat) + (j : Int))))).getD i [] = Ms.getD i [] := fun i e => by
    rw [List.getD_eq_getElem?_getD, List.getElem?_set_ne (fun e' => e e'.symm), ← List.getD_eq_getElem?_getD]
  have hlen : (Ls.getD k []).length = Ms[k].length := by rw [← h2 k, kgetD_at hk]
  refine ⟨by rw [List.length_set]; exact h1, fun i => ?_, fun i hi => by rw [ho i (by omega)]; exact h3 i hi, fun q hq => ?_⟩
  · by_cases e : i = k
    · subst e; rw [hs, List.length_set, hlen]
    · rw [ho i e]; exact h2 i
  · rw [hs]
    by_cases e : q = j
    · subst e
      rw [List.getElem?_set_self hj]
      unfold mks
      rw [List.getElem?_map, List.getElem?_range (by omega)]
      rfl
    · rw [List.getElem?_set_ne (fun e' => e e'.symm), ← kgetD_at hk]
      exact h4 q (by omega)
theorem KPut.next {Ls Ms : List (List α)} {k j : Nat} (h : KPut mk Ls Ms k j) (hk : k < Ms.length) (hj : ¬ j < Ms[k].length) : KPut mk Ls Ms (k + 1) 0 := by
  obtain ⟨h1, h2, h3, h4⟩ := h
  refine ⟨h1, h2, fun i hi => ?_, fun q hq => by omega⟩
  by_cases e : i = k
  · subst e
    apply List.ext_getElem?
    intro q
    by_cases hq : q < j
    · exact h4 q hq
    · have := h2 i
      rw [kgetD_at hk] at this ⊢
      rw [List.getElem?_eq_none (by omega), List.getElem?_eq_none (by rw [mks_len]; omega)]
  · exact h3 i (by omega)
theorem KPut.done {Ls Ms : List (List α)} {k : Nat} (h : KPut mk Ls Ms k 0) (hk : k = Ls.length) : KMarked mk Ms ∧ Ms.length = Ls.length ∧ ∀ i, (Ms.getD i []).length = (Ls.getD i []).length := by
  obtain ⟨h1, h2, h3, _⟩ := h
  refine ⟨fun i hi => ?_, h1, h2⟩
  have := h3 i (by omega)
  rw [← h2 i, kgetD_at hi] at this
  exact this


theorem Sl.same_blk {α : Type} {E : Enc α} {w w' : World} {A : Option Addr} {n c : Nat} {xs : List α} (h : Sl E w A n c xs) (hs : w.heap.size ≤ w'.heap.size) (hb : ∀ k, (Value.slice A n c).ownBlock = some k → w'.heap[k]? = w.heap[k]?) : Sl E w' A n c xs := by
  obtain ⟨h1, h2, h3, h4⟩ := h
  refine ⟨h1, h2, h3, fun h0 => ?_⟩
  obtain ⟨b, off, rfl, hlt, hr⟩ := h4 h0
  refine ⟨b, off, rfl, by omega, fun i hi j hj => ?_⟩
  rw [World.cell?_of_block (a := ⟨b, _, none⟩) (hb b rfl)]
  exact hr i hi j hj

/-- A row grows: v is the row as it was (with L), s is the row so far (with M). -/
structure KGrowAt (E : Enc α) (e : TypeId) (w0 w : World) (B : Nat) (v s : Value) (L M : List α) : Prop where
  own : Own E e w B s M
  pre : M.take L.length = L
  le : L.length ≤ M.length
  sl : ∃ A c, v = .slice A L.length c ∧ Sl E w A L.length c L
  place : s.ownBlock = v.ownBlock ∨ ∀ q, s.ownBlock = some q → w0.heap.size ≤ q
  lt : ∀ q, v.ownBlock = some q → q < w0.heap.size
  size : w0.heap.size ≤ w.heap.size
  same : ∀ q, q < w0.heap.size → v.ownBlock ≠ some q → w.heap[q]? = w0.heap[q]?
theorem KGrowAt.start {w : World} {B : Nat} {v : Value} {L : List α} (h : Own E e w B v L) : KGrowAt E e w w B v v L L := by
  obtain ⟨A, c, h1, h2, _⟩ := h.sl
  exact ⟨h, by simp, Nat.le_refl _, ⟨A, c, h1, h2⟩, .inl rfl, fun q hq => (h.lt q hq).2, Nat.le_refl _, fun _ _ _ => rfl⟩
theorem KGrowAt.below {w0 w w' : World} {B : Nat} {v s : Value} {L M : List α} (h : KGrowAt E e w0 w B v s L M) (hb : Below w.heap.size w w') : KGrowAt E e w0 w' B v s L M := by
  obtain ⟨A, c, h1, h2⟩ := h.sl
  exact ⟨h.own.below hb, h.pre, h.le, ⟨A, c, h1, h2.below hb⟩, h.place, h.lt, Nat.le_trans h.size hb.size, fun q hq hq2 => (hb.block q (Nat.lt_of_lt_of_le hq h.size)).trans (h.same q hq hq2)⟩
/-- One row lies at the head of another one in the same block. -/
theorem Sl.head_of {w : World} {B : Nat} {A : Option Addr} {n c : Nat} {L M : List α} {w1 : World} {s : Value} (h : Sl E w A n c L) (ho : Own E e w1 B s M) (hA : ∀ b off, A = some ⟨b, off, none⟩ → off = 0) (hs : s.ownBlock = (Value.slice A n c).ownBlock) (hp : M.take L.length = L) (hle : L.length ≤ M.length) : Sl E w1 A n c L := by
  obtain ⟨h1, h2, h3, h4⟩ := h
  refine ⟨h1, h2, h3, fun h0 => ?_⟩
  obtain ⟨b, off, rfl, hlt, hr⟩ := h4 h0
  obtain rfl := hA b off rfl
  rcases ho.shape with ⟨rfl, h5⟩ | ⟨g, cap, rfl, hg1, hg2, hg3, hg4⟩
  · subst h5; have : L.length ≤ 0 := hle; omega
  · have : g = b := by
      have h9 : some g = some b := hs
      injection h9
    subst this
    refine ⟨g, 0, rfl, hg2, fun i hi j hj => ?_⟩
    rw [ho.cell (i := i) (by omega) hj]
    have : M[i]'(by omega) = L[i] := by
      have h8 := congrArg (fun l : List α => l[i]?) hp
      simp only [List.getElem?_take_of_lt hi] at h8
      rw [List.getElem?_eq_getElem (by omega), List.getElem?_eq_getElem hi] at h8
      injection h8
    rw [this]
theorem KGrowAt.app {w0 w w1 : World} {B : Nat} {v s s' : Value} {L M ys : List α} (h : KGrowAt E e w0 w B v s L M) (hv : ∀ A n c, v = .slice A n c → ∀ b off, A = some ⟨b, off, none⟩ → off = 0)
    (ho : Own E e w1 B s' (M ++ ys)) (hg : (s'.ownBlock = s.ownBlock ∧ w.grownBy w1 s.ownBlock) ∨ (Own E e w1 w.heap.size s' (M ++ ys) ∧ w.grownBy w1 none)) : KGrowAt E e w0 w1 B v s' L (M ++ ys) := by
  obtain ⟨A, c, h1, h2⟩ := h.sl
  have hpre : (M ++ ys).take L.length = L := by rw [List.take_append_of_le_length h.le]; exact h.pre
  have hle : L.length ≤ (M ++ ys).length := by rw [List.length_append]; exact Nat.le_trans h.le (Nat.le_add_right _ _)
  rcases hg with ⟨h3, h4⟩ | ⟨h3, h4⟩
  · have hsz := h4.size
    refine ⟨ho, hpre, hle, ⟨A, c, h1, ?_⟩, by rw [h3]; exact h.place, h.lt, Nat.le_trans h.size hsz, fun q hq hq2 => (h4.block q (Nat.lt_of_lt_of_le hq h.size) ?_).trans (h.same q hq hq2)⟩
    · rcases h.place with h5 | h5
      · exact h2.head_of ho (hv A _ c h1) (by rw [h3, h5, h1]) hpre hle
      · refine h2.same_blk hsz fun k hk => h4.block k ?_ fun e' => ?_
        · exact Nat.lt_of_lt_of_le (h.lt k (by rw [h1]; exact hk)) h.size
        · have := h5 k e'.symm
          have := h.lt k (by rw [h1]; exact hk)
          omega
    · intro e'
      rcases h.place with h5 | h5
      · exact hq2 (h5 ▸ e'.symm)
      · have := h5 q e'.symm; omega
  · have hsz := h4.size
    exact ⟨ho, hpre, hle, ⟨A, c, h1, h2.same_blk hsz fun k hk => h4.block k (Nat.lt_of_lt_of_le (h.lt k (by rw [h1]; exact hk)) h.size) (by simp)⟩, .inr fun q hq => Nat.le_trans h.size (h3.lt q hq).1, h.lt, Nat.le_trans h.size hsz, fun q hq hq2 => (h4.block q (Nat.lt_of_lt_of_le hq h.size) (by simp)).trans (h.same q hq hq2)⟩

structure KGrows (E : Enc α) (T TT : TypeId) (mk : Nat → Int → α) (w wr : World) (B : Nat) (X : Value) (vs : List Value) (Ls : List (List α)) (k : Nat) (G : Value) (gs : List Value) : Prop where
  n : gs.length = k
  outer : Own kV TT wr B X vs
  rest : ∀ i (h : i < vs.length) (h' : i < Ls.length), k ≤ i → Own E T wr B vs[i] Ls[i]
  olds : ∀ i (h : i < vs.length) (h' : i < Ls.length), i < k → ∃ A c, vs[i] = .slice A Ls[i].length c ∧ Sl E wr A Ls[i].length c Ls[i]
  news : ∀ i (h : i < gs.length) (h' : i < Ls.length), ∃ A c, gs[i] = .slice A (Ls[i].length + 72) c ∧ Sl E wr A (Ls[i].length + 72) c (mks mk i 0 (Ls[i].length + 72))
  lie : ∀ i (h : i < gs.length) (h' : i < vs.length) q, gs[i].ownBlock = some q → (vs[i].ownBlock = some q ∨ w.heap.size ≤ q) ∧ G.ownBlock ≠ some q ∧ q < wr.heap.size
  gown : Own kV TT wr w.heap.size G gs
  size : w.heap.size ≤ wr.heap.size
  same : ∀ q, q < w.heap.size → (∀ i (h : i < vs.length), vs[i].ownBlock ≠ some q) → wr.heap[q]? = w.heap[q]?
theorem KGrows.start {w : World} {B : Nat} {X : Value} {vs : List Value} {Ls : List (List α)} (h : KRows E T TT w B X vs Ls) : KGrows E T TT mk w w B X vs Ls 0 (.slice none 0 0) [] :=
  ⟨rfl, h.outer, fun i h1 h2 _ => h.inner i h1 h2, fun i _ _ h3 => by omega, fun i h1 => by simp at h1, fun i h1 => by simp at h1, Own.nil _ _ _ _, Nat.le_refl _, fun _ _ _ => rfl⟩
theorem koff0 {w : World} {B : Nat} {v : Value} {L : List α} (h : Own E e w B v L) : ∀ A n c, v = .slice A n c → ∀ b off, A = some ⟨b, off, none⟩ → off = 0 := by
  rintro A n c rfl b off rfl
  rcases h.shape with ⟨h1, _⟩ | ⟨g, cap, h1, _⟩
  · injection h1 with h1; cases h1
  · injection h1 with h1
    injection h1 with h1
    injection h1
variable {w wr w6 w8 : World} {B : Nat} {X : Value} {vs : List Value} {Ls : List (List α)} {k : Nat} {G : Value} {gs : List Value}
theorem KGrows.gown6 (hR : KRows E T TT w B X vs Ls) (h : KGrows E T TT mk w wr B X vs Ls k G gs) (hk : k < vs.length) (hk' : k < Ls.length) {s : Value} {M : List α} (hg : KGrowAt E T wr w6 B vs[k] s Ls[k] M) : Own kV TT w6 w.heap.size G gs :=
  h.gown.same_block fun q hq => hg.same q (h.gown.lt q hq).2 fun e => by
    have h1 := (h.gown.lt q hq).1
    have h2 := ((hR.inner k hk hk').lt q e).2
    omega
theorem KGrows.step (hR : KRows E T TT w B X vs Ls) (h : KGrows E T TT mk w wr B X vs Ls k G gs) (hk : k < vs.length) (hk' : k < Ls.length) {s : Value} (hg : KGrowAt E T wr w6 B vs[k] s Ls[k] (mks mk k 0 (Ls[k].length + 72)))
    {G' : Value} {o : Obj} (ho : Own kV TT w8 w.heap.size G' (gs ++ [s])) (hgr : (w6.alloc o).grownBy w8 G.ownBlock) (hloc : G'.ownBlock = G.ownBlock ∨ G'.ownBlock = some (w6.heap.size + 1)) : KGrows E T TT mk w w8 B X vs Ls (k + 1) G' (gs ++ [s]) := by
  have hal : (w6.alloc o).heap.size = w6.heap.size + 1 := by show (w6.heap.push o).size = _; simp
  have hs8 : w6.heap.size + 1 ≤ w8.heap.size := hal ▸ hgr.size
  have k6 : ∀ q, q < w6.heap.size → G.ownBlock ≠ some q → w8.heap[q]? = w6.heap[q]? := fun q hq hq2 => (hgr.block q (by omega) fun e => hq2 e.symm).trans (Below.heap_alloc w6 o q hq)
  have kr : ∀ q, q < wr.heap.size → vs[k].ownBlock ≠ some q → G.ownBlock ≠ some q → w8.heap[q]? = wr.heap[q]? := fun q h1 h2 h3 => (k6 q (Nat.lt_of_lt_of_le h1 hg.size) h3).trans (hg.same q h1 h2)
  have hnG : ∀ q, q < w.heap.size → G.ownBlock ≠ some q := fun q hq e => by have := (h.gown.lt q e).1; omega
  have hn := h.n
  have hvk : ∀ q, vs[k].ownBlock = some q → q < w.heap.size := fun q hq => ((hR.inner k hk hk').lt q hq).2
  have hlie : ∀ q, s.ownBlock = some q → (vs[k].ownBlock = some q ∨ w.heap.size ≤ q) ∧ G.ownBlock ≠ some q ∧ q < w6.heap.size := by
    intro q hq
    have hlt := (hg.own.lt q hq).2
    rcases hg.place with hp | hp
    · rw [hp] at hq
      exact ⟨.inl hq, hnG q (hvk q hq), hlt⟩
    · have := hp q hq
      exact ⟨.inr (Nat.le_trans h.size this), fun e => by have := (h.gown.lt q e).2; omega, hlt⟩
  have hG' : ∀ q, q < w6.heap.size → G.ownBlock ≠ some q → G'.ownBlock ≠ some q := by
    intro q hq hq2 e
    rcases hloc with h1 | h1
    · exact hq2 (h1 ▸ e)
    · rw [h1] at e; injection e with e; omega
  have hsz := hg.size
  have hsw := h.size
  refine ⟨by simp [hn], h.outer.same_block fun q hq => kr q (h.outer.lt q hq).2 (fun e => hR.apart k hk q e hq) (hnG q (hR.outer.lt q hq).2), fun i h1 h2 h3 => (h.rest i h1 h2 (by omega)).same_block fun q hq => ?_, fun i h1 h2 h3 => ?_, fun i h1 h2 => ?_, fun i h1 h2 q hq => ?_, ho, by omega, fun q hq hall => (kr q (by omega) (hall k hk) (hnG q hq)).trans (h.same q hq hall)⟩
  · have hq2 := ((hR.inner i h1 h2).lt q hq).2
    exact kr q (by omega) (fun e => hR.dist k i hk h1 (by omega) q e hq) (hnG q hq2)
  · by_cases e : i = k
    · subst e
      obtain ⟨A, c, h4, h5⟩ := hg.sl
      exact ⟨A, c, h4, h5.same_blk (by omega) fun q hq => by
        have := hvk q (by rw [h4]; exact hq)
        exact k6 q (by omega) (hnG q this)⟩
    · obtain ⟨A, c, h4, h5⟩ := h.olds i h1 h2 (by omega)
      exact ⟨A, c, h4, h5.same_blk (by omega) fun q hq => by
        have hq1 : vs[i].ownBlock = some q := by rw [h4]; exact hq
        have := ((hR.inner i h1 h2).lt q hq1).2
        exact kr q (by omega) (fun e' => hR.dist k i hk h1 (fun e2 => e e2.symm) q e' hq1) (hnG q this)⟩
  · by_cases e : i < k
    · have hi : i < gs.length := by omega
      obtain ⟨A, c, h4, h5⟩ := h.news i hi h2
      rw [List.getElem_append_left hi]
      refine ⟨A, c, h4, h5.same_blk (by omega) fun q hq => ?_⟩
      have hq1 : gs[i].ownBlock = some q := by rw [h4]; exact hq
      obtain ⟨h6, h7, h8⟩ := h.lie i hi (by omega) q hq1
      refine kr q h8 (fun e' => ?_) h7
      rcases h6 with h6 | h6
      · exact hR.dist k i hk (by omega) (by omega) q e' h6
      · have := hvk q e'; omega
    · have e' : i = k := by simp at h1; omega
      subst e'
      have hi : (gs ++ [s])[i]'h1 = s := by rw [List.getElem_append_right (by omega)]; simp
      rw [hi]
      obtain ⟨A, c, h4, h5, _⟩ := hg.own.sl
      rw [mks_len] at h4 h5
      exact ⟨A, c, h4, h5.same_blk (by omega) fun q hq => by
        obtain ⟨_, h7, h8⟩ := hlie q (by rw [h4]; exact hq)
        exact k6 q h8 h7⟩
  · by_cases e : i < k
    · have hi : i < gs.length := by omega
      rw [List.getElem_append_left hi] at hq
      obtain ⟨h6, h7, h8⟩ := h.lie i hi h2 q hq
      exact ⟨h6, hG' q (by omega) h7, by omega⟩
    · have e' : i = k := by simp at h1; omega
      subst e'
      have hi : (gs ++ [s])[i]'h1 = s := by rw [List.getElem_append_right (by omega)]; simp
      rw [hi] at hq
      obtain ⟨h6, h7, h8⟩ := hlie q hq
      exact ⟨h6, hG' q h8 h7, by omega⟩
/-- What the lists are, grown. -/
def grownK (mk : Nat → Int → α) (Ls : List (List α)) : List (List α) := (List.range Ls.length).map fun i => mks mk i 0 ((Ls.getD i []).length + 72)
theorem grownK_len : (grownK mk Ls).length = Ls.length := by simp [grownK]
theorem grownK_at {i : Nat} (h : i < Ls.length) (h' : i < (grownK mk Ls).length) : (grownK mk Ls)[i] = mks mk i 0 (Ls[i].length + 72) := by
  have h2 : (grownK mk Ls)[i]? = some (mks mk i 0 (Ls[i].length + 72)) := by
    unfold grownK
    rw [List.getElem?_map, List.getElem?_range h, Option.map_some, kgetD_at h]
  rw [List.getElem?_eq_getElem h'] at h2
  exact Option.some.inj h2
theorem grownK_marked : KMarked mk (grownK mk Ls) := fun i h => by
  have h' : i < Ls.length := by rw [grownK_len] at h; exact h
  rw [grownK_at h' h, mks_len]
theorem KGrows.done (h : KGrows E T TT mk w wr B X vs Ls k G gs) (hn : vs.length = Ls.length) (hk : k = vs.length) : KRead E wr X vs Ls ∧ KRead E wr G gs (grownK mk Ls) := by
  obtain ⟨A, c, h1, h2, _⟩ := h.outer.sl
  obtain ⟨A', c', h3, h4, _⟩ := h.gown.sl
  refine ⟨⟨A, c, h1, h2, hn, fun i h5 h6 => h.olds i h5 h6 (by omega)⟩, ⟨A', c', h3, h4, by rw [grownK_len, h.n]; omega, fun i h5 h6 => ?_⟩⟩
  have h7 : i < Ls.length := by rw [grownK_len] at h6; exact h6
  rw [grownK_at h7 h6, mks_len]
  exact h.news i h5 h7

theorem KRows.snoc {w w' : World} {B : Nat} {X X' v : Value} {vs : List Value} {Ls : List (List α)} {L : List α} (h : KRows E T TT w B X vs Ls)
    (hk : ∀ i (h : i < vs.length) q, vs[i].ownBlock = some q → w'.heap[q]? = w.heap[q]? ∧ X'.ownBlock ≠ some q ∧ v.ownBlock ≠ some q) (hX : Own kV TT w' B X' (vs ++ [v])) (hv : Own E T w' B v L) (hvX : ∀ q, v.ownBlock = some q → X'.ownBlock ≠ some q) : KRows E T TT w' B X' (vs ++ [v]) (Ls ++ [L]) := by
  have hn := h.n
  have at1 : ∀ i (h1 : i < (vs ++ [v]).length), (∃ h2 : i < vs.length, (vs ++ [v])[i] = vs[i]) ∨ (i = vs.length ∧ (vs ++ [v])[i] = v) := by
    intro i h1
    by_cases h2 : i < vs.length
    · exact .inl ⟨h2, List.getElem_append_left h2⟩
    · have : i = vs.length := by simp at h1; omega
      subst this
      exact .inr ⟨rfl, by simp⟩
  refine ⟨hX, by simp [hn], fun i h1 h2 => ?_, fun i h1 q hq => ?_, fun i j h1 h2 hij q hq => ?_⟩
  · rcases at1 i h1 with ⟨h3, h4⟩ | ⟨rfl, h4⟩
    · rw [h4, List.getElem_append_left (by omega)]
      exact (h.inner i h3 (by omega)).same_block fun q hq => (hk i h3 q hq).1
    · rw [h4]
      have : (Ls ++ [L])[vs.length]'h2 = L := by simp [hn]
      rw [this]
      exact hv
  · rcases at1 i h1 with ⟨h3, h4⟩ | ⟨rfl, h4⟩
    · rw [h4] at hq; exact (hk i h3 q hq).2.1
    · rw [h4] at hq; exact hvX q hq
  · rcases at1 i h1 with ⟨h3, h4⟩ | ⟨rfl, h4⟩
    · rcases at1 j h2 with ⟨h5, h6⟩ | ⟨rfl, h6⟩
      · rw [h4] at hq; rw [h6]; exact h.dist i j h3 h5 hij q hq
      · rw [h4] at hq; rw [h6]; exact (hk i h3 q hq).2.2
    · rcases at1 j h2 with ⟨h5, h6⟩ | ⟨rfl, h6⟩
      · rw [h4] at hq; rw [h6]; exact fun e => (hk j h5 q e).2.2 hq
      · exact absurd rfl hij
/-- One element of one row is another one. -/
theorem KRows.store {w w' : World} {B : Nat} {X : Value} {vs : List Value} {Ms : List (List α)} (h : KRows E T TT w B X vs Ms) {k : Nat} (hk : k < vs.length) (hk2 : k < Ms.length) {g : Nat} (hg : vs[k].ownBlock = some g)
    {L : List α} (hoth : ∀ q, q ≠ g → w'.heap[q]? = w.heap[q]?) (ho : Own E T w' B vs[k] L) : KRows E T TT w' B X vs (Ms.set k L) := by
  refine ⟨h.outer.same_block fun q hq => hoth q fun e => h.apart k hk g hg (e ▸ hq), by rw [List.length_set]; exact h.n, fun i h1 h2 => ?_, h.apart, h.dist⟩
  have h2' : i < Ms.length := by simpa using h2
  by_cases e : i = k
  · subst e
    rw [List.getElem_set_self]
    exact ho
  · rw [List.getElem_set_ne (fun e' => e e'.symm)]
    exact (h.inner i h1 h2').same_block fun q hq => hoth q fun e' => h.dist k i hk h1 (fun e2 => e e2.symm) g hg (e' ▸ hq)
/-- The blocks that rows lie in. -/
def InnB (vs : List Value) (q : Nat) : Prop := ∃ i, ∃ h : i < vs.length, vs[i].ownBlock = some q
theorem KRows.keep {w w' : World} {B : Nat} {X : Value} {vs : List Value} {Ls : List (List α)} (h : KRows E T TT w B X vs Ls) (hb : ∀ k, k < w.heap.size → (X.ownBlock = some k ∨ InnB vs k) → w'.heap[k]? = w.heap[k]?) : KRows E T TT w' B X vs Ls := by
  have hn := h.n
  exact ⟨h.outer.same_block fun k hk => hb k (h.outer.lt k hk).2 (.inl hk), h.n, fun i h1 h2 => (h.inner i h1 h2).same_block fun k hk => hb k ((h.inner i h1 h2).lt k hk).2 (.inr ⟨i, h1, hk⟩), h.apart, h.dist⟩
/-- The blocks of a row of rows. -/
def OwnX (X : Value) (vs : List Value) (q : Nat) : Prop := X.ownBlock = some q ∨ InnB vs q
theorem KGrows.where_ {w wr : World} {B : Nat} {X : Value} {vs : List Value} {Ls : List (List α)} {k : Nat} {G : Value} {gs : List Value} (h : KGrows E T TT mk w wr B X vs Ls k G gs) (hk : k ≤ vs.length) : ∀ q, OwnX G gs q → InnB vs q ∨ w.heap.size ≤ q := by
  rintro q (hq | ⟨i, hi, hq⟩)
  · exact .inr (h.gown.lt q hq).1
  · have hn := h.n
    have hi2 : i < vs.length := by omega
    rcases (h.lie i hi hi2 q hq).1 with h1 | h1
    · exact .inl ⟨i, hi2, h1⟩
    · exact .inr h1
theorem KRows.chg {w w' : World} {B : Nat} {X : Value} {vs : List Value} {Ls : List (List α)} {F : Nat → Prop} (h : KRows E T TT w B X vs Ls) (hc : Chg F w w') (hd : ∀ q, OwnX X vs q → ¬ F q) : KRows E T TT w' B X vs Ls :=
  h.keep fun k h1 h2 => hc.block k h1 (hd k h2)
theorem Sl.keepc {w w' : World} {A : Option Addr} {n c : Nat} {xs : List α} (h : Sl E w A n c xs) (hs : w.heap.size ≤ w'.heap.size) (hb : ∀ k, k < w.heap.size → (Value.slice A n c).ownBlock = some k → w'.heap[k]? = w.heap[k]?) : Sl E w' A n c xs := by
  obtain ⟨h1, h2, h3, h4⟩ := h
  refine ⟨h1, h2, h3, fun h0 => ?_⟩
  obtain ⟨b, off, rfl, hlt, hr⟩ := h4 h0
  refine ⟨b, off, rfl, by omega, fun i hi j hj => ?_⟩
  rw [World.cell?_of_block (a := ⟨b, _, none⟩) (hb b hlt rfl)]
  exact hr i hi j hj
theorem KRead.chg {w w' : World} {X : Value} {vs : List Value} {Ls : List (List α)} {F : Nat → Prop} (h : KRead E w X vs Ls) (hc : Chg F w w') (hd : ∀ q, q < w.heap.size → OwnX X vs q → ¬ F q) : KRead E w' X vs Ls := by
  obtain ⟨A, c, rfl, h2, h3, h4⟩ := h
  refine ⟨A, c, rfl, h2.keepc hc.size fun k h5 h6 => hc.block k h5 (hd k h5 (.inl h6)), h3, fun i h5 h6 => ?_⟩
  obtain ⟨A', c', h7, h8⟩ := h4 i h5 h6
  exact ⟨A', c', h7, h8.keepc hc.size fun k h9 h10 => hc.block k h9 (hd k h9 (.inr ⟨i, h5, by rw [h7]; exact h10⟩))⟩
end
end Go.Proofs.YtnpgjdhigcjihaaGreatDoor
/- One kind's lists of a book, with the copies; one more list comes. -/
namespace Go.Proofs.YtnpgjdhigcjihaaGreatDoor
open Go.RowKit

section
variable {α : Type} {E : Enc α} {T TT : TypeId}
/-- One kind's lists of a book, with the copies. -/
structure Kin (E : Enc α) (T TT : TypeId) (w : World) (B : Nat) (X Y : Value) (vs us : List Value) (Ls : List (List α)) : Prop where
  rows : KRows E T TT w B X vs Ls
  copy : KRows E T TT w B Y us Ls
  sep : ∀ q, X.ownBlock = some q → Y.ownBlock ≠ some q
  vY : ∀ i (h : i < vs.length) q, vs[i].ownBlock = some q → Y.ownBlock ≠ some q
  uX : ∀ i (h : i < us.length) q, us[i].ownBlock = some q → X.ownBlock ≠ some q
/-- The blocks that they lie in. -/
def KOwn (X Y : Value) (vs us : List Value) (q : Nat) : Prop := X.ownBlock = some q ∨ Y.ownBlock = some q ∨ InnB vs q ∨ InnB us q
theorem Kin.nil (w : World) (B : Nat) : Kin E T TT w B (.slice none 0 0) (.slice none 0 0) [] [] [] :=
  ⟨⟨Own.nil _ _ _ _, rfl, fun i h => by simp at h, fun i h => by simp at h, fun i j h => by simp at h⟩, ⟨Own.nil _ _ _ _, rfl, fun i h => by simp at h, fun i h => by simp at h, fun i j h => by simp at h⟩, fun q h => by simp [Value.ownBlock] at h, fun i h => by simp at h, fun i h => by simp at h⟩
theorem KOwn.nil (q : Nat) : ¬ KOwn (.slice none 0 0) (.slice none 0 0) [] [] q := by
  rintro (h | h | ⟨i, h, _⟩ | ⟨i, h, _⟩)
  · simp [Value.ownBlock] at h
  · simp [Value.ownBlock] at h
  · simp at h
  · simp at h
theorem Kin.keep {w w' : World} {B : Nat} {X Y : Value} {vs us : List Value} {Ls : List (List α)} (h : Kin E T TT w B X Y vs us Ls) (hb : ∀ k, k < w.heap.size → KOwn X Y vs us k → w'.heap[k]? = w.heap[k]?) : Kin E T TT w' B X Y vs us Ls :=
  ⟨h.rows.keep fun k h1 h2 => hb k h1 (h2.elim .inl fun h3 => .inr (.inr (.inl h3))), h.copy.keep fun k h1 h2 => hb k h1 (h2.elim (fun h3 => .inr (.inl h3)) fun h3 => .inr (.inr (.inr h3))), h.sep, h.vY, h.uX⟩
theorem Kin.lt {w : World} {B : Nat} {X Y : Value} {vs us : List Value} {Ls : List (List α)} (h : Kin E T TT w B X Y vs us Ls) {q : Nat} (hq : KOwn X Y vs us q) : B ≤ q ∧ q < w.heap.size := by
  have n1 := h.rows.n
  have n2 := h.copy.n
  rcases hq with hq | hq | ⟨i, hi, hq⟩ | ⟨i, hi, hq⟩
  · exact h.rows.outer.lt q hq
  · exact h.copy.outer.lt q hq
  · exact (h.rows.inner i hi (by omega)).lt q hq
  · exact (h.copy.inner i hi (by omega)).lt q hq
theorem kblk_set {w : World} {b i : Nat} {cs : Array Value} {T : TypeId} {fr : Nat × Nat} (hb : w.heap[b]? = some (.cells cs T fr)) (v : Value) : (w.setCell ⟨b, i, none⟩ v).heap[b]? = some (.cells (cs.setIfInBounds i v) T fr) := by
  simp [World.setCell, Array.getElem?_modify, hb]
/-- What the book's taking of a list leaves as it was. -/
structure KTouch (w w' : World) (b : Nat) (X Y X' Y' u : Value) : Prop where
  below : Below b w w'
  size : w.heap.size ≤ w'.heap.size
  same : ∀ q, q < w.heap.size → q ≠ b → X.ownBlock ≠ some q → Y.ownBlock ≠ some q → w'.heap[q]? = w.heap[q]?
  x : ∀ q, X'.ownBlock = some q → X.ownBlock = some q ∨ w.heap.size ≤ q
  y : ∀ q, Y'.ownBlock = some q → Y.ownBlock = some q ∨ w.heap.size ≤ q
  u : ∀ q, u.ownBlock = some q → w.heap.size ≤ q
variable {w w1 w4 w5 : World} {b B f : Nat} {X Y X' Y' u v : Value} {vs us : List Value} {Ls : List (List α)} {L : List α} {cs : Array Value} {TB : TypeId}
theorem Kin.add (hblk : w.heap[b]? = some (.cells cs TB)) (hlt : b < B) (hbw : B ≤ w.heap.size) (h : Kin E T TT w B X Y vs us Ls) (hv : Own E T w B v L) (hf : ∀ q, v.ownBlock = some q → X.ownBlock ≠ some q ∧ Y.ownBlock ≠ some q ∧ ∀ i (h : i < vs.length), vs[i].ownBlock ≠ some q)
    {c1 c5 : Obj} (o1 : Own kV TT w1 B X' (vs ++ [v])) (g1 : (w.alloc c1).grownBy w1 X.ownBlock) (l1 : X'.ownBlock = X.ownBlock ∨ X'.ownBlock = some (w.heap.size + 1))
    (b4 : Below w1.heap.size (w1.setCell ⟨b, f, none⟩ X').drew w4) (o4 : Own E T w4 w1.heap.size u L)
    (o5 : Own kV TT w5 B Y' (us ++ [u])) (g5 : (w4.alloc c5).grownBy w5 Y.ownBlock) (l5 : Y'.ownBlock = Y.ownBlock ∨ Y'.ownBlock = some (w4.heap.size + 1)) :
    (w5.setCell ⟨b, f + 1, none⟩ Y').heap[b]? = some (.cells ((cs.setIfInBounds f X').setIfInBounds (f + 1) Y') TB) ∧ B ≤ (w5.setCell ⟨b, f + 1, none⟩ Y').heap.size ∧ Kin E T TT (w5.setCell ⟨b, f + 1, none⟩ Y') B X' Y' (vs ++ [v]) (us ++ [u]) (Ls ++ [L]) ∧ KTouch w (w5.setCell ⟨b, f + 1, none⟩ Y') b X Y X' Y' u := by
  have hal (w : World) (o : Obj) : (w.alloc o).heap.size = w.heap.size + 1 := by show (w.heap.push o).size = _; simp
  have hst (w : World) (a : Addr) (v : Value) : (w.setCell a v).heap.size = w.heap.size := by simp [World.setCell]
  have s1 : w.heap.size + 1 ≤ w1.heap.size := hal w c1 ▸ g1.size
  have s4 : w1.heap.size ≤ w4.heap.size := by have := b4.size; rwa [show (w1.setCell ⟨b, f, none⟩ X').drew.heap.size = (w1.setCell ⟨b, f, none⟩ X').heap.size from rfl, hst] at this
  have s5 : w4.heap.size + 1 ≤ w5.heap.size := hal w4 c5 ▸ g5.size
  have k1 : ∀ q, q < w.heap.size → X.ownBlock ≠ some q → w1.heap[q]? = w.heap[q]? := fun q hq hq2 => (g1.block q (by rw [hal]; omega) fun e => hq2 e.symm).trans (Below.heap_alloc w c1 q hq)
  have k4 : ∀ q, q < w1.heap.size → q ≠ b → w4.heap[q]? = w1.heap[q]? := fun q hq hq2 => (b4.block q hq).trans (Below.heap_setCell w1 ⟨b, f, none⟩ X' q hq2)
  have k5 : ∀ q, q < w4.heap.size → Y.ownBlock ≠ some q → w5.heap[q]? = w4.heap[q]? := fun q hq hq2 => (g5.block q (by rw [hal]; omega) fun e => hq2 e.symm).trans (Below.heap_alloc w4 c5 q hq)
  have k6 : ∀ q, q ≠ b → (w5.setCell ⟨b, f + 1, none⟩ Y').heap[q]? = w5.heap[q]? := fun q hq => Below.heap_setCell w5 ⟨b, f + 1, none⟩ Y' q hq
  have K : ∀ q, q < w.heap.size → q ≠ b → X.ownBlock ≠ some q → Y.ownBlock ≠ some q → (w5.setCell ⟨b, f + 1, none⟩ Y').heap[q]? = w.heap[q]? := fun q h1 h2 h3 h4 =>
    (k6 q h2).trans ((k5 q (by omega) h4).trans ((k4 q (by omega) h2).trans (k1 q h1 h3)))
  have bX : X.ownBlock ≠ some b := fun e => by have := (h.rows.outer.lt b e).1; omega
  have bY : Y.ownBlock ≠ some b := fun e => by have := (h.copy.outer.lt b e).1; omega
  have yW : ∀ q, Y.ownBlock = some q → B ≤ q ∧ q < w.heap.size := fun q hq => h.copy.outer.lt q hq
  have xW : ∀ q, X.ownBlock = some q → B ≤ q ∧ q < w.heap.size := fun q hq => h.rows.outer.lt q hq
  have x1W : ∀ q, X'.ownBlock = some q → B ≤ q ∧ q < w1.heap.size := fun q hq => o1.lt q hq
  have x1Y : ∀ q, X'.ownBlock = some q → Y.ownBlock ≠ some q := by
    intro q hq e
    rcases l1 with l | l
    · exact h.sep q (l ▸ hq) e
    · rw [l] at hq; injection hq with hq; have := (yW q e).2; omega
  have e1 : w1.heap[b]? = w.heap[b]? := k1 b (by omega) bX
  have blk2 := kblk_set (w := w1) (b := b) (i := f) (e1.trans hblk) X'
  have blk4 : w4.heap[b]? = _ := (b4.block b (by omega)).trans blk2
  have blk5 : w5.heap[b]? = _ := (k5 b (by omega) bY).trans blk4
  have blk6 := kblk_set (w := w5) (b := b) (i := f + 1) blk5 Y'
  have nX1 : ∀ q, X.ownBlock ≠ some q → q < w.heap.size → X'.ownBlock ≠ some q := by
    intro q h1 h2 e
    rcases l1 with l | l
    · exact h1 (l ▸ e)
    · rw [l] at e; injection e with e; omega
  have nY1 : ∀ q, Y.ownBlock ≠ some q → q < w4.heap.size → Y'.ownBlock ≠ some q := by
    intro q h1 h2 e
    rcases l5 with l | l
    · exact h1 (l ▸ e)
    · rw [l] at e; injection e with e; omega
  have uW : ∀ q, u.ownBlock = some q → w1.heap.size ≤ q ∧ q < w4.heap.size := fun q hq => o4.lt q hq
  have uY : ∀ q, u.ownBlock = some q → Y.ownBlock ≠ some q := fun q hq e => by have := (uW q hq).1; have := (yW q e).2; omega
  have vW : ∀ q, v.ownBlock = some q → B ≤ q ∧ q < w.heap.size := fun q hq => hv.lt q hq
  have oX : Own kV TT (w5.setCell ⟨b, f + 1, none⟩ Y') B X' (vs ++ [v]) := o1.same_block fun q hq => (k6 q fun e => by have := (x1W q hq).1; omega).trans ((k5 q (by have := (x1W q hq).2; omega) (x1Y q hq)).trans (k4 q (x1W q hq).2 fun e => by have := (x1W q hq).1; omega))
  have oV : Own E T (w5.setCell ⟨b, f + 1, none⟩ Y') B v L := hv.same_block fun q hq => K q (vW q hq).2 (fun e => by have := (vW q hq).1; omega) (hf q hq).1 (hf q hq).2.1
  have oU : Own E T (w5.setCell ⟨b, f + 1, none⟩ Y') B u L := (o4.lower (by omega : B ≤ w1.heap.size)).same_block fun q hq => (k6 q fun e => by have := (uW q hq).1; omega).trans (k5 q (uW q hq).2 (uY q hq))
  have oY : Own kV TT (w5.setCell ⟨b, f + 1, none⟩ Y') B Y' (us ++ [u]) := o5.same_block fun q hq => k6 q fun e => by have := (o5.lt q hq).1; omega
  refine ⟨blk6, by rw [hst]; omega, ⟨h.rows.snoc (fun i h1 q hq => ?_) oX oV (fun q hq => nX1 q (hf q hq).1 (vW q hq).2), h.copy.snoc (fun i h1 q hq => ?_) oY oU (fun q hq => nY1 q (uY q hq) (uW q hq).2), fun q hq => ?_, fun i h1 q hq => ?_, fun i h1 q hq => ?_⟩, ⟨?_, by rw [hst]; omega, K, fun q hq => ?_, fun q hq => ?_, fun q hq => by have := (uW q hq).1; omega⟩⟩
  · have hn := h.rows.n
    have hq2 := (h.rows.inner i h1 (by omega)).lt q hq
    exact ⟨K q hq2.2 (by omega) (h.rows.apart i h1 q hq) (h.vY i h1 q hq), nX1 q (h.rows.apart i h1 q hq) hq2.2, fun e => (hf q e).2.2 i h1 hq⟩
  · have hn := h.copy.n
    have hq2 := (h.copy.inner i h1 (by omega)).lt q hq
    exact ⟨K q hq2.2 (by omega) (h.uX i h1 q hq) (h.copy.apart i h1 q hq), nY1 q (h.copy.apart i h1 q hq) (by omega), fun e => by have := (uW q e).1; omega⟩
  · exact nY1 q (x1Y q hq) (by have := (x1W q hq).2; omega)
  · by_cases h2 : i < vs.length
    · rw [List.getElem_append_left h2] at hq
      have hn := h.rows.n
      exact nY1 q (h.vY i h2 q hq) (by have := ((h.rows.inner i h2 (by omega)).lt q hq).2; omega)
    · have h3 : i = vs.length := by simp at h1; omega
      subst h3
      simp at hq
      exact nY1 q (hf q hq).2.1 (by have := (vW q hq).2; omega)
  · by_cases h2 : i < us.length
    · rw [List.getElem_append_left h2] at hq
      have hn := h.copy.n
      exact nX1 q (h.uX i h2 q hq) ((h.copy.inner i h2 (by omega)).lt q hq).2
    · have h3 : i = us.length := by simp at h1; omega
      subst h3
      simp at hq
      intro e
      have := (uW q hq).1
      have := (x1W q e).2
      omega
  · have B0 : Below b w (w.alloc c1) := (Below.refl b w).alloc (by omega) c1
    have B1 : Below b w w1 := B0.grown g1 (by rw [hal]; omega) fun q hq => by have := (xW q hq).1; omega
    have B2 : Below b w (w1.setCell ⟨b, f, none⟩ X').drew := (B1.setCell (p := ⟨b, f, none⟩) (Nat.le_refl b) X').drew
    have B4 : Below b w w4 := B2.trans (b4.mono (by omega))
    have B5 : Below b w w5 := (B4.alloc (by omega) c5).grown g5 (by rw [hal]; omega) fun q hq => by have := (yW q hq).1; omega
    exact B5.setCell (p := ⟨b, f + 1, none⟩) (Nat.le_refl b) Y'
  · rcases l1 with l | l
    · exact .inl (l ▸ hq)
    · rw [l] at hq; injection hq with hq; exact .inr (by omega)
  · rcases l5 with l | l
    · exact .inl (l ▸ hq)
    · rw [l] at hq; injection hq with hq; exact .inr (by omega)
end
end Go.Proofs.YtnpgjdhigcjihaaGreatDoor
/- Small facts for the book. -/
namespace Go.Proofs.YtnpgjdhigcjihaaGreatDoor
open Go.RowKit

theorem kcell_other (w : World) (b i j : Nat) (v : Value) (h : i ≠ j) : (w.setCell ⟨b, i, none⟩ v).cell? ⟨b, j, none⟩ = w.cell? ⟨b, j, none⟩ := by
  rw [World.cell?_setCell_other]
  intro e
  injection e with _ e
  exact h e
theorem kown_len (A : Option Addr) (n c n' c' : Nat) : (Value.slice A n c).ownBlock = (Value.slice A n' c').ownBlock := by cases A <;> rfl
theorem kblk_cell {w : World} {b : Nat} {cs : Array Value} {T : TypeId} {fr : Nat × Nat} (h : w.heap[b]? = some (.cells cs T fr)) (i : Nat) (v : Value) (hv : cs[i]? = some v) : w.cell? ⟨b, i, none⟩ = some v := by
  simp [World.cell?, h, hv]
end Go.Proofs.YtnpgjdhigcjihaaGreatDoor
/- Printed by gen_bk.py. The book, kind Extents: copies, marks. -/
namespace Go.Proofs.YtnpgjdhigcjihaaGreatDoor
open Go.RowKit

theorem Tryz.kinfE : (Tryz.prog.info? 146).map (fun i => (i.zero, i.size, i.bytes)) = some (some (.agg #[.int .i64 0, .int .i64 0, .int .i64 0]), 3, 24) := by kernel_rfl
theorem Tryz.kinfsE : (Tryz.prog.info? 131).map (fun i => (i.zero, i.size, i.bytes)) = some (some (.slice none 0 0), 1, 24) := by kernel_rfl
theorem koneE (L : List Ext) : ∀ u ∈ eE.flat L, u.oneCell' = true := eE_one L
theorem klitE (i : Nat) (z : Int) : ∀ u ∈ (#[.int .i64 (-1000 * (i : Int) - z - 1), .int .i64 0, .int .i64 0] : Array Value).toList, u.oneCell' = true := by
  intro u hu
  simp at hu
  rcases hu with rfl | rfl <;> rfl
def mkE (i : Nat) (z : Int) : Ext := ⟨-1000 * (i : Int) - z - 1, 0, 0⟩
set_option maxHeartbeats 1000000 in
set_option maxRecDepth 100000 in
theorem kmarkE (i f n : Nat) (w : World) (hi' : i ≤ 1000000) (hf : f ≤ 1000000) (hn : n ≤ 1000000) :
    Calls Tryz.prog 95 #[.int .i64 i, .int .i64 f, .int .i64 n] w fun e w' => ∃ A c, e = .returned (.slice A n c) ∧ Own eE 146 w' w.heap.size (.slice A n c) (mks mkE i f n) ∧ Below w.heap.size w w' := by
  obtain ⟨i0, hi, hz0, hz1, hz2⟩ := info_parts Tryz.kinfE
  go_enter Tryz.func95, Tryz.ntmps95
  go_wp2_with fail
  go_loopw [7, 8] (fun v j wr => ∃ k : Nat, k ≤ n ∧ j = .int .i64 ((f : Int) + (k : Int)) ∧ (∃ A c, v = .slice A k c ∧ Own eE 146 wr w.heap.size (.slice A k c) (mks mkE i f k)) ∧ Below w.heap.size w wr) (fun _ j _ => f + n - (intOf j).toNat)
  case atStart => exact ⟨0, Nat.zero_le _, rfl, ⟨none, 0, rfl, Own.nil _ _ _ _⟩, Below.refl _ _⟩
  case round =>
    obtain ⟨k, hk, rfl, ⟨Av, cv, rfl, hown⟩, HB⟩ := hrel
    by_cases hlt : k < n
    · have hlt' : (f : Int) + (k : Int) < (f : Int) + n := by omega
      have Hsu := hide (mks_succ (mk := mkE) i f k)
      have Hl := hide (mks_len (mk := mkE) i f k)
      go_wp2_with (at_builtin; refine wpList_append_one eE rfl _ _ _ rfl w.heap.size 146 i0 _ 24 Tryz.underlying131 hi hz0 hz1 hz2 rfl (by decide) _ (mks mkE i f k) rfl _ hown (mkE i ((f : Int) + (k : Int))) #[.int .i64 (-1000 * (i : Int) - ((f : Int) + (k : Int)) - 1), .int .i64 0, .int .i64 0] rfl (by simp [Act.eval]) (klitE _ _) ?c3 ?c4 ?c5 ?_)
      case c3 => rw [unhide Hl]; unfold maxLen; omega
      case c4 => rw [unhide Hl]; omega
      case c5 => exact HB.size
      intro v1 w1 hown1 hgr hloc
      have hb := HB.alloc HB.size (.cells #[.int .i64 (-1000 * (i : Int) - ((f : Int) + (k : Int)) - 1), .int .i64 0, .int .i64 0] 146)
      have B2 : Below w.heap.size w w1 := hb.grown hgr hb.size fun j hj => (hown.lt j hj).1
      obtain ⟨A1, c1, hv1, _, _⟩ := hown1.sl
      rw [List.length_append, unhide Hl, List.length_singleton] at hv1
      subst hv1
      have Hown1 := hide hown1
      clear hgr hloc hb hown HB hown1
      go_wp2
      go_roundw
      case rel => exact ⟨k + 1, by omega, by go_num, ⟨A1, c1, rfl, by rw [unhide Hsu]; exact unhide Hown1⟩, B2⟩
      case measure => simp [intOf]; omega
    · obtain rfl : k = n := by omega
      have hlt' : ¬ (f : Int) + (k : Int) < (f : Int) + k := by omega
      have Hown := hide hown
      clear hown
      go_wp2
      go_ret
      exact ⟨Av, cv, rfl, unhide Hown, HB⟩
end Go.Proofs.YtnpgjdhigcjihaaGreatDoor
/- Printed by gen_bk.py. The book, kind Extents: are they what they were, are they marked. -/
namespace Go.Proofs.YtnpgjdhigcjihaaGreatDoor
open Go.RowKit

set_option maxHeartbeats 1000000 in
set_option maxRecDepth 100000 in
theorem kstillE (b : Nat) (X Y : Value) (vs us : List Value) (Ls : List (List Ext)) (w : World) (c2 : w.cell? ⟨b, 6, none⟩ = some X) (c3 : w.cell? ⟨b, 7, none⟩ = some Y) (hX : KRead eE w X vs Ls) (hY : KRead eE w Y us Ls) (hn : Ls.length ≤ 1000) :
    Calls Tryz.prog 44 #[.pointer (some ⟨b, 0, none⟩)] w fun e w' => e = .returned (.bool true) ∧ ∃ q, w' = w.drewN q := by
  obtain ⟨A1, d1, rfl, s1, n1, h1⟩ := hX
  obtain ⟨A2, d2, rfl, s2, n2, h2⟩ := hY
  have R1 := hide s1.2.2.2
  have R2 := hide s2.2.2.2
  have b1 := s1.2.1
  have b2 := s2.2.1
  have b3 := s1.2.2.1
  have b4 := s2.2.2.1
  have H1 := hide h1
  have H2 := hide h2
  clear s1 s2 h1 h2
  go_enter Tryz.func44, Tryz.ntmps44
  go_wp2_with fail
  go_loopw [3] (fun i wr => ∃ (k q : Nat), k ≤ vs.length ∧ i = .int .i64 k ∧ wr = w.drewN q) (fun i _ => vs.length - (intOf i).toNat)
  case atStart => exact ⟨0, 0, Nat.zero_le _, rfl, rfl⟩
  case round =>
    obtain ⟨k, q, hk, rfl, rfl⟩ := hrel
    by_cases hlt : k < vs.length
    · have hlt2 : k < us.length := by omega
      obtain ⟨g1, o1, e1, l1, r1⟩ := unhide R1 (by omega)
      obtain ⟨g2, o2, e2, l2, r2⟩ := unhide R2 (by omega)
      subst e1 e2
      obtain ⟨Aa, ca, ea, sa⟩ := unhide H1 k hlt (by omega)
      obtain ⟨Ab, cb, eb, sb⟩ := unhide H2 k hlt2 (by omega)
      have x1 : w.cell? ⟨g1, o1 + k, none⟩ = some (.slice Aa (Ls[k]'(by omega)).length ca) := by rw [← ea]; simpa [kV] using r1 k hlt 0 (by decide)
      have x2 : w.cell? ⟨g2, o2 + k, none⟩ = some (.slice Ab (Ls[k]'(by omega)).length cb) := by rw [← eb]; simpa [kV] using r2 k hlt2 0 (by decide)
      obtain ⟨W, hW⟩ : ∃ W, W = w.drewN q := ⟨_, rfl⟩
      have hsame : ∀ n, Calls Tryz.prog 88 #[.slice Aa (Ls[k]'(by omega)).length ca, .slice Ab (Ls[k]'(by omega)).length cb] (W.drewN n) fun e w' => e = .returned (.bool true) ∧ ∃ m, w' = (W.drewN n).drewN m := by
        intro n
        rw [hW]
        exact (sameExtents_yes Aa ca Ab cb (Ls[k]'(by omega)).length (Ls[k]'(by omega)) ((w.drewN q).drewN n) (show Sl eE ((w.drewN q).drewN n) _ _ _ _ from sa) (show Sl eE ((w.drewN q).drewN n) _ _ _ _ from sb))
      have y1 : W.cell? ⟨g1, o1 + k, none⟩ = some (.slice Aa (Ls[k]'(by omega)).length ca) := by rw [hW]; exact x1
      have y2 : W.cell? ⟨g2, o2 + k, none⟩ = some (.slice Ab (Ls[k]'(by omega)).length cb) := by rw [hW]; exact x2
      have y3 : W.cell? ⟨b, 6, none⟩ = some (.slice (some ⟨g1, o1, none⟩) vs.length d1) := by rw [hW]; exact c2
      have y4 : W.cell? ⟨b, 7, none⟩ = some (.slice (some ⟨g2, o2, none⟩) us.length d2) := by rw [hW]; exact c3
      have Hsame := hide hsame
      clear hsame sa sb ea eb r1 r2
      obtain ⟨m, hm⟩ : ∃ m, m = (Ls[k]'(by omega)).length := ⟨_, rfl⟩
      rw [← hm] at y1 y2 Hsame
      rw [← hW]
      have HW := hide hW
      clear hm x1 x2 hW
      go_wp2
      go_quiet ((go_at_call 88; refine Calls.quiet_of (unhide Hsame _)))
      go_wp2
      go_roundw
      case rel => exact ⟨k + 1, q + nq, by omega, by go_num, by rw [unhide HW, World.drewN_drewN]⟩
      case measure => simp [intOf]; omega
    · go_wp2
      go_ret
      exact ⟨rfl, q, rfl⟩
set_option maxHeartbeats 2000000 in
set_option maxRecDepth 100000 in
theorem kmarkedE (Z : Value) (zs : List Value) (Ls : List (List Ext)) (w : World) (hZ : KRead eE w Z zs Ls) (hm : KMarked mkE Ls) (hn : Ls.length ≤ 1000) (hl : ∀ i (h : i < Ls.length), Ls[i].length ≤ 1000000) :
    Calls Tryz.prog 65 #[Z] w fun e w' => e = .returned (.bool true) ∧ Below w.heap.size w w' := by
  obtain ⟨A1, d1, rfl, s1, n1, h1⟩ := hZ
  have R1 := hide s1.2.2.2
  have b1 := s1.2.1
  have b3 := s1.2.2.1
  have H1 := hide h1
  have Hm := hide hm
  have Hl := hide hl
  have hzn : zs.length ≤ Ls.length := by omega
  have N1 := hide n1
  clear s1 h1 hm hl n1
  go_enter Tryz.func65, Tryz.ntmps65
  go_wp2_with fail
  go_loopw [3] (fun i wr => ∃ (k : Nat), k ≤ zs.length ∧ i = .int .i64 k ∧ Below w.heap.size w wr) (fun i _ => zs.length - (intOf i).toNat)
  case atStart => exact ⟨0, Nat.zero_le _, rfl, Below.refl _ _⟩
  case round =>
    obtain ⟨k, hk, rfl, HB⟩ := hrel
    by_cases hlt : k < zs.length
    · have hlt2 : k < Ls.length := by omega
      obtain ⟨g1, o1, e1, l1, r1⟩ := unhide R1 (by omega)
      subst e1
      obtain ⟨Aa, ca, ea, sa⟩ := unhide H1 k hlt hlt2
      obtain ⟨m, hmm⟩ : ∃ m, m = Ls[k].length := ⟨_, rfl⟩
      have hmk := unhide Hm k hlt2
      have hlk := unhide Hl k hlt2
      rw [← hmm] at hmk hlk sa
      have x1 : wr.cell? ⟨g1, o1 + k, none⟩ = some (.slice Aa m ca) := by
        rw [(bcell HB).1 _ _ l1, hmm, ← ea]
        simpa [kV] using r1 k hlt 0 (by decide)
      have sr := HB.size
      rw [hmk] at sa
      have hml : (mks mkE k 0 m).length = m := mks_len k 0 m
      have hsa := sa.below HB
      have Sa := hide (show Sl eE wr.drew Aa m ca (mks mkE k 0 m) from hsa)
      clear hsa
      have hlt3 : g1 < wr.heap.size := by omega
      clear ea r1 hmm hmk sa hml
      go_wp2
      go_region_held3 (fun W => W.cell? ⟨g1, o1 + k, none⟩ = some (.slice Aa m ca))
        (first | go_keep | exact ((bcell HB5).1 g1 (o1 + k) hlt3).trans x1)
        ((first | (go_at_call 95; refine (kmarkE k 0 m _ (by omega) (by omega) (by omega)).mono ?_; rintro e w5 ⟨A5, c5, rfl, ho5, HB5⟩) | (go_at_call 88; refine (show Calls Tryz.prog 88 #[.slice Aa m ca, .slice A5 m c5] w5 fun e w' => e = .returned (.bool true) ∧ ∃ q, w' = w5.drewN q from (sameExtents_yes Aa ca A5 c5 m (mks mkE k 0 m) w5 ((unhide Sa).below HB5) (ksl ho5))).mono ?_; rintro e w6 ⟨rfl, q6, rfl⟩)))
      have B5 : Below w.heap.size w w5 := HB.trans ⟨HB5.os, HB5.tape, HB5.output, HB5.size, fun j hj => HB5.block j (Nat.lt_of_lt_of_le hj sr)⟩
      clear HB HB5 ho5
      go_wp2
      go_roundw
      case rel => exact ⟨k + 1, by omega, by go_num, below_drewN B5 _⟩
      case measure => simp [intOf]; omega
    · go_wp2
      go_ret
      exact ⟨rfl, HB⟩
end Go.Proofs.YtnpgjdhigcjihaaGreatDoor
/- Printed by gen_bk.py. The book, kind Shelves: copies, marks. -/
namespace Go.Proofs.YtnpgjdhigcjihaaGreatDoor
open Go.RowKit

theorem Tryz.kinfS : (Tryz.prog.info? 56).map (fun i => (i.zero, i.size, i.bytes)) = some (some (.agg #[.int .i64 0, .int .i64 0, .string ⟨#[]⟩]), 3, 32) := by kernel_rfl
theorem Tryz.kinfsS : (Tryz.prog.info? 26).map (fun i => (i.zero, i.size, i.bytes)) = some (some (.slice none 0 0), 1, 24) := by kernel_rfl
theorem koneS (L : List Shv) : ∀ u ∈ eSh.flat L, u.oneCell' = true := eSh_one L
theorem klitS (i : Nat) (z : Int) : ∀ u ∈ (#[.int .i64 (-1000 * (i : Int) - z - 1), .int .i64 0, .string ⟨#[]⟩] : Array Value).toList, u.oneCell' = true := by
  intro u hu
  simp at hu
  rcases hu with rfl | rfl | rfl <;> rfl
def mkS (i : Nat) (z : Int) : Shv := ⟨-1000 * (i : Int) - z - 1, 0, ⟨#[]⟩⟩
set_option maxHeartbeats 1000000 in
set_option maxRecDepth 100000 in
theorem kmarkS (i f n : Nat) (w : World) (hi' : i ≤ 1000000) (hf : f ≤ 1000000) (hn : n ≤ 1000000) :
    Calls Tryz.prog 96 #[.int .i64 i, .int .i64 f, .int .i64 n] w fun e w' => ∃ A c, e = .returned (.slice A n c) ∧ Own eSh 56 w' w.heap.size (.slice A n c) (mks mkS i f n) ∧ Below w.heap.size w w' := by
  obtain ⟨i0, hi, hz0, hz1, hz2⟩ := info_parts Tryz.kinfS
  go_enter Tryz.func96, Tryz.ntmps96
  go_wp2_with fail
  go_loopw [7, 8] (fun v j wr => ∃ k : Nat, k ≤ n ∧ j = .int .i64 ((f : Int) + (k : Int)) ∧ (∃ A c, v = .slice A k c ∧ Own eSh 56 wr w.heap.size (.slice A k c) (mks mkS i f k)) ∧ Below w.heap.size w wr) (fun _ j _ => f + n - (intOf j).toNat)
  case atStart => exact ⟨0, Nat.zero_le _, rfl, ⟨none, 0, rfl, Own.nil _ _ _ _⟩, Below.refl _ _⟩
  case round =>
    obtain ⟨k, hk, rfl, ⟨Av, cv, rfl, hown⟩, HB⟩ := hrel
    by_cases hlt : k < n
    · have hlt' : (f : Int) + (k : Int) < (f : Int) + n := by omega
      have Hsu := hide (mks_succ (mk := mkS) i f k)
      have Hl := hide (mks_len (mk := mkS) i f k)
      go_wp2_with (at_builtin; refine wpList_append_one eSh rfl _ _ _ rfl w.heap.size 56 i0 _ 32 Tryz.underlying26 hi hz0 hz1 hz2 rfl (by decide) _ (mks mkS i f k) rfl _ hown (mkS i ((f : Int) + (k : Int))) #[.int .i64 (-1000 * (i : Int) - ((f : Int) + (k : Int)) - 1), .int .i64 0, .string ⟨#[]⟩] rfl (by simp [Act.eval]) (klitS _ _) ?c3 ?c4 ?c5 ?_)
      case c3 => rw [unhide Hl]; unfold maxLen; omega
      case c4 => rw [unhide Hl]; omega
      case c5 => exact HB.size
      intro v1 w1 hown1 hgr hloc
      have hb := HB.alloc HB.size (.cells #[.int .i64 (-1000 * (i : Int) - ((f : Int) + (k : Int)) - 1), .int .i64 0, .string ⟨#[]⟩] 56)
      have B2 : Below w.heap.size w w1 := hb.grown hgr hb.size fun j hj => (hown.lt j hj).1
      obtain ⟨A1, c1, hv1, _, _⟩ := hown1.sl
      rw [List.length_append, unhide Hl, List.length_singleton] at hv1
      subst hv1
      have Hown1 := hide hown1
      clear hgr hloc hb hown HB hown1
      go_wp2
      go_roundw
      case rel => exact ⟨k + 1, by omega, by go_num, ⟨A1, c1, rfl, by rw [unhide Hsu]; exact unhide Hown1⟩, B2⟩
      case measure => simp [intOf]; omega
    · obtain rfl : k = n := by omega
      have hlt' : ¬ (f : Int) + (k : Int) < (f : Int) + k := by omega
      have Hown := hide hown
      clear hown
      go_wp2
      go_ret
      exact ⟨Av, cv, rfl, unhide Hown, HB⟩
end Go.Proofs.YtnpgjdhigcjihaaGreatDoor
/- Printed by gen_bk.py. The book, kind Shelves: are they what they were, are they marked. -/
namespace Go.Proofs.YtnpgjdhigcjihaaGreatDoor
open Go.RowKit

set_option maxHeartbeats 1000000 in
set_option maxRecDepth 100000 in
theorem kstillS (b : Nat) (X Y : Value) (vs us : List Value) (Ls : List (List Shv)) (w : World) (c2 : w.cell? ⟨b, 8, none⟩ = some X) (c3 : w.cell? ⟨b, 9, none⟩ = some Y) (hX : KRead eSh w X vs Ls) (hY : KRead eSh w Y us Ls) (hn : Ls.length ≤ 1000) :
    Calls Tryz.prog 45 #[.pointer (some ⟨b, 0, none⟩)] w fun e w' => e = .returned (.bool true) ∧ ∃ q, w' = w.drewN q := by
  obtain ⟨A1, d1, rfl, s1, n1, h1⟩ := hX
  obtain ⟨A2, d2, rfl, s2, n2, h2⟩ := hY
  have R1 := hide s1.2.2.2
  have R2 := hide s2.2.2.2
  have b1 := s1.2.1
  have b2 := s2.2.1
  have b3 := s1.2.2.1
  have b4 := s2.2.2.1
  have H1 := hide h1
  have H2 := hide h2
  clear s1 s2 h1 h2
  go_enter Tryz.func45, Tryz.ntmps45
  go_wp2_with fail
  go_loopw [3] (fun i wr => ∃ (k q : Nat), k ≤ vs.length ∧ i = .int .i64 k ∧ wr = w.drewN q) (fun i _ => vs.length - (intOf i).toNat)
  case atStart => exact ⟨0, 0, Nat.zero_le _, rfl, rfl⟩
  case round =>
    obtain ⟨k, q, hk, rfl, rfl⟩ := hrel
    by_cases hlt : k < vs.length
    · have hlt2 : k < us.length := by omega
      obtain ⟨g1, o1, e1, l1, r1⟩ := unhide R1 (by omega)
      obtain ⟨g2, o2, e2, l2, r2⟩ := unhide R2 (by omega)
      subst e1 e2
      obtain ⟨Aa, ca, ea, sa⟩ := unhide H1 k hlt (by omega)
      obtain ⟨Ab, cb, eb, sb⟩ := unhide H2 k hlt2 (by omega)
      have x1 : w.cell? ⟨g1, o1 + k, none⟩ = some (.slice Aa (Ls[k]'(by omega)).length ca) := by rw [← ea]; simpa [kV] using r1 k hlt 0 (by decide)
      have x2 : w.cell? ⟨g2, o2 + k, none⟩ = some (.slice Ab (Ls[k]'(by omega)).length cb) := by rw [← eb]; simpa [kV] using r2 k hlt2 0 (by decide)
      obtain ⟨W, hW⟩ : ∃ W, W = w.drewN q := ⟨_, rfl⟩
      have hsame : ∀ n, Calls Tryz.prog 17 #[.slice Aa (Ls[k]'(by omega)).length ca, .slice Ab (Ls[k]'(by omega)).length cb] (W.drewN n) fun e w' => e = .returned (.bool true) ∧ ∃ m, w' = (W.drewN n).drewN m := by
        intro n
        rw [hW]
        exact (sameShelves_yes Aa ca Ab cb (Ls[k]'(by omega)).length (Ls[k]'(by omega)) ((w.drewN q).drewN n) (show Sl eSh ((w.drewN q).drewN n) _ _ _ _ from sa) (show Sl eSh ((w.drewN q).drewN n) _ _ _ _ from sb))
      have y1 : W.cell? ⟨g1, o1 + k, none⟩ = some (.slice Aa (Ls[k]'(by omega)).length ca) := by rw [hW]; exact x1
      have y2 : W.cell? ⟨g2, o2 + k, none⟩ = some (.slice Ab (Ls[k]'(by omega)).length cb) := by rw [hW]; exact x2
      have y3 : W.cell? ⟨b, 8, none⟩ = some (.slice (some ⟨g1, o1, none⟩) vs.length d1) := by rw [hW]; exact c2
      have y4 : W.cell? ⟨b, 9, none⟩ = some (.slice (some ⟨g2, o2, none⟩) us.length d2) := by rw [hW]; exact c3
      have Hsame := hide hsame
      clear hsame sa sb ea eb r1 r2
      obtain ⟨m, hm⟩ : ∃ m, m = (Ls[k]'(by omega)).length := ⟨_, rfl⟩
      rw [← hm] at y1 y2 Hsame
      rw [← hW]
      have HW := hide hW
      clear hm x1 x2 hW
      go_wp2
      go_quiet ((go_at_call 17; refine Calls.quiet_of (unhide Hsame _)))
      go_wp2
      go_roundw
      case rel => exact ⟨k + 1, q + nq, by omega, by go_num, by rw [unhide HW, World.drewN_drewN]⟩
      case measure => simp [intOf]; omega
    · go_wp2
      go_ret
      exact ⟨rfl, q, rfl⟩
set_option maxHeartbeats 2000000 in
set_option maxRecDepth 100000 in
theorem kmarkedS (Z : Value) (zs : List Value) (Ls : List (List Shv)) (w : World) (hZ : KRead eSh w Z zs Ls) (hm : KMarked mkS Ls) (hn : Ls.length ≤ 1000) (hl : ∀ i (h : i < Ls.length), Ls[i].length ≤ 1000000) :
    Calls Tryz.prog 66 #[Z] w fun e w' => e = .returned (.bool true) ∧ Below w.heap.size w w' := by
  obtain ⟨A1, d1, rfl, s1, n1, h1⟩ := hZ
  have R1 := hide s1.2.2.2
  have b1 := s1.2.1
  have b3 := s1.2.2.1
  have H1 := hide h1
  have Hm := hide hm
  have Hl := hide hl
  have hzn : zs.length ≤ Ls.length := by omega
  have N1 := hide n1
  clear s1 h1 hm hl n1
  go_enter Tryz.func66, Tryz.ntmps66
  go_wp2_with fail
  go_loopw [3] (fun i wr => ∃ (k : Nat), k ≤ zs.length ∧ i = .int .i64 k ∧ Below w.heap.size w wr) (fun i _ => zs.length - (intOf i).toNat)
  case atStart => exact ⟨0, Nat.zero_le _, rfl, Below.refl _ _⟩
  case round =>
    obtain ⟨k, hk, rfl, HB⟩ := hrel
    by_cases hlt : k < zs.length
    · have hlt2 : k < Ls.length := by omega
      obtain ⟨g1, o1, e1, l1, r1⟩ := unhide R1 (by omega)
      subst e1
      obtain ⟨Aa, ca, ea, sa⟩ := unhide H1 k hlt hlt2
      obtain ⟨m, hmm⟩ : ∃ m, m = Ls[k].length := ⟨_, rfl⟩
      have hmk := unhide Hm k hlt2
      have hlk := unhide Hl k hlt2
      rw [← hmm] at hmk hlk sa
      have x1 : wr.cell? ⟨g1, o1 + k, none⟩ = some (.slice Aa m ca) := by
        rw [(bcell HB).1 _ _ l1, hmm, ← ea]
        simpa [kV] using r1 k hlt 0 (by decide)
      have sr := HB.size
      rw [hmk] at sa
      have hml : (mks mkS k 0 m).length = m := mks_len k 0 m
      have hsa := sa.below HB
      have Sa := hide (show Sl eSh wr.drew Aa m ca (mks mkS k 0 m) from hsa)
      clear hsa
      have hlt3 : g1 < wr.heap.size := by omega
      clear ea r1 hmm hmk sa hml
      go_wp2
      go_region_held3 (fun W => W.cell? ⟨g1, o1 + k, none⟩ = some (.slice Aa m ca))
        (first | go_keep | exact ((bcell HB5).1 g1 (o1 + k) hlt3).trans x1)
        ((first | (go_at_call 96; refine (kmarkS k 0 m _ (by omega) (by omega) (by omega)).mono ?_; rintro e w5 ⟨A5, c5, rfl, ho5, HB5⟩) | (go_at_call 17; refine (show Calls Tryz.prog 17 #[.slice Aa m ca, .slice A5 m c5] w5 fun e w' => e = .returned (.bool true) ∧ ∃ q, w' = w5.drewN q from (sameShelves_yes Aa ca A5 c5 m (mks mkS k 0 m) w5 ((unhide Sa).below HB5) (ksl ho5))).mono ?_; rintro e w6 ⟨rfl, q6, rfl⟩)))
      have B5 : Below w.heap.size w w5 := HB.trans ⟨HB5.os, HB5.tape, HB5.output, HB5.size, fun j hj => HB5.block j (Nat.lt_of_lt_of_le hj sr)⟩
      clear HB HB5 ho5
      go_wp2
      go_roundw
      case rel => exact ⟨k + 1, by omega, by go_num, below_drewN B5 _⟩
      case measure => simp [intOf]; omega
    · go_wp2
      go_ret
      exact ⟨rfl, HB⟩
end Go.Proofs.YtnpgjdhigcjihaaGreatDoor
/- Printed by gen_bk.py. The book, kind Shelves: copies. -/
namespace Go.Proofs.YtnpgjdhigcjihaaGreatDoor
open Go.RowKit

set_option maxHeartbeats 1000000 in
theorem kcopyS (A : Option Addr) (n c : Nat) (L : List Shv) (w : World) (hs : Sl eSh w A n c L) (hn : n ≤ 100000) :
    Calls Tryz.prog 35 #[.slice A n c] w fun e w' => ∃ A' c', e = .returned (.slice A' n c') ∧ Own eSh 56 w' w.heap.size (.slice A' n c') L ∧ Below w.heap.size w w' := by
  obtain ⟨i0, hi, hz0, hz1, hz2⟩ := info_parts Tryz.kinfS
  have hnL : n = L.length := hs.1
  have HnL := hide hnL
  go_enter Tryz.func35, Tryz.ntmps35
  clear hnL
  go_wp2_with (at_builtin; refine wpList_append_sl eSh rfl _ _ _ rfl w.heap.size 56 i0 _ 32 Tryz.underlying26 hi hz0 hz1 hz2 rfl (by decide) _ [] rfl _ (Own.nil _ _ _ _) A n c L rfl hs (koneS _) ?c3 ?c4 ?c5 ?_)
  case c3 => unfold maxLen; simp; omega
  case c4 => simp; omega
  case c5 => exact Nat.le_refl _
  intro v w1 hown hgr hloc
  have B1 : Below w.heap.size w w1 := (Below.refl _ _).grown hgr (Nat.le_refl _) fun j hj => by simp [Value.ownBlock] at hj
  obtain ⟨A1, c1, hv, _, _⟩ := hown.sl
  rw [← unhide HnL] at hv
  subst hv
  have Hown := hide hown
  clear hgr hloc hown
  go_wp2
  go_ret
  exact ⟨_, _, rfl, unhide Hown, B1⟩
end Go.Proofs.YtnpgjdhigcjihaaGreatDoor
