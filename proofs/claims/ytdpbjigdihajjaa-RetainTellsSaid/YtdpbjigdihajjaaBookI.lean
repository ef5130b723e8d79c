/- The book takes one more list of numbers. -/
import Derived.Test.YtdpbjigdihajjaaBookG
import Derived.Test.YtdpbjigdihajjaaBookH
namespace Go.Proofs.Ytdpbjigdihajjaa
open Go.RowKit

/-- append(v, x) as one operation among others. -/
theorem wp_append_one {α : Type} {P : Program} {o : Oper} {a : Act} {K : Act → World → Prop} {Q : Exit → Act → World → Prop} (E : Enc α) (s y : Operand) (t : TypeId) (ho : o.op = .call { callee := .builtin .append, args := #[s, y], argTypes := #[t, t] })
    (base : Nat) (e : TypeId) (i : TypeInfo) (z : Value) (bytes : Nat) (ht : P.underlying t = some (.slice e)) (hi : P.info? e = some i) (hz : i.zero = some z)
    (hsize : i.size = E.sz) (hby : i.bytes = bytes) (hzs : z.cells.size = E.sz) (hsz : 0 < E.sz) (v : Value) (xs : List α) (hs : a.eval s = v) (w : World) (hown : Own E e w base v xs)
    (x : α) (cs : Array Value) (hcs : cs.toList = E.cells x) (hx : a.eval y = .slice (some ⟨w.heap.size, 0, none⟩) 1 1) (h1 : ∀ u ∈ cs.toList, u.oneCell' = true)
    (h63 : xs.length + 1 ≤ maxLen) (hbytes : (xs.length + 1) * bytes ≤ 140737488355328) (hbase : base ≤ w.heap.size)
    (h : ∀ v' w', Own E e w' base v' (xs ++ [x]) → (w.alloc (.cells cs e)).grownBy w' v.ownBlock → (v'.ownBlock = v.ownBlock ∨ v'.ownBlock = some (w.heap.size + 1)) → K (a.put o.dst v') w') :
    Oper.wp P o a (w.alloc (.cells cs e)) K Q := by
  obtain ⟨v', w', hr, h2, h3, h4, h5⟩ := run_append_own_at (P := P) (w.alloc (.cells cs e)) base t o.type e i z E.sz bytes ht hi hz hsize hby hzs hsz v xs.length (E.flat xs) (World.ownsRow.alloc hown _) ⟨w.heap.size, 0, none⟩ 1 1 (E.cells x) (by rw [Enc.cells_len, Nat.one_mul]) (fun j u hj => by
    rw [← hcs] at hj
    rw [Go.WideShapes.add_plain, World.cell?_alloc_at _ _ _ _ rfl, Nat.zero_add]
    simpa using hj) (by rw [← hcs]; exact h1) h63 hbytes (by simp; omega)
  unfold Oper.wp execOp
  simp only [ho, resolve, invoke, builtin, Sem.run_bind, Sem.run_pure, Result.andThen_ok, List.map_toArray, List.map_cons, List.map_nil, hs, hx, hr]
  refine h v' w' ?_ h3 (by simpa using h5)
  unfold Own
  rw [List.length_append, Enc.flat_app, Enc.flat_one]
  exact h2

/-- The book of lists of numbers. -/
structure BookI (w : World) (b B : Nat) (X Y : Value) (vs us : List Value) (Ls : List (List Int)) : Prop where
  blk : w.heap[b]? = some (.cells #[.slice none 0 0, .slice none 0 0, X, Y, .slice none 0 0, .slice none 0 0, .slice none 0 0, .slice none 0 0, .slice none 0 0, .slice none 0 0, .slice none 0 0, .slice none 0 0, .slice none 0 0, .slice none 0 0] 39)
  lt : b < B
  bw : B ≤ w.heap.size
  rows : RowsI w B X vs Ls
  copy : RowsI w B Y us Ls
  sep : ∀ q, X.ownBlock = some q → Y.ownBlock ≠ some q
  vY : ∀ i (h : i < vs.length) q, vs[i].ownBlock = some q → Y.ownBlock ≠ some q
  uX : ∀ i (h : i < us.length) q, us[i].ownBlock = some q → X.ownBlock ≠ some q
theorem RowsI.snoc {w w' : World} {B : Nat} {X X' v : Value} {vs : List Value} {Ls : List (List Int)} {L : List Int} (h : RowsI w B X vs Ls)
    (hk : ∀ i (h : i < vs.length) q, vs[i].ownBlock = some q → w'.heap[q]? = w.heap[q]? ∧ X'.ownBlock ≠ some q ∧ v.ownBlock ≠ some q) (hX : Own eV 40 w' B X' (vs ++ [v])) (hv : Own eI 3 w' B v L) (hvX : ∀ q, v.ownBlock = some q → X'.ownBlock ≠ some q) : RowsI w' B X' (vs ++ [v]) (Ls ++ [L]) := by
  have hn := h.n
  have at1 : ∀ i (h1 : i < (vs ++ [v]).length), (∃ h2 : i < vs.length, (vs ++ [v])[i] = vs[i]) ∨ (i = vs.length ∧ (vs ++ [v])[i] = v) := by
    intro i h1
    by_cases h2 : i < vs.length
    · exact .inl ⟨h2, List.getElem_append_left h2⟩
    · have : i = vs.length := by simp at h1; omega
      subst this
      exact .inr ⟨rfl, by simp⟩
  refine ⟨hX, by simp [hn], fun i h1 h2 => ?_, fun i h1 q hq => ?_, fun i j h1 h2 hij q hq => ?_⟩
  · rcases at1 i h1 with ⟨h3, h4⟩ | ⟨rfl, h4⟩
    · rw [h4, List.getElem_append_left (by omega)]
      exact (h.inner i h3 (by omega)).same_block fun q hq => (hk i h3 q hq).1
    · rw [h4]
      have : (Ls ++ [L])[vs.length]'h2 = L := by simp [hn]
      rw [this]
      exact hv
  · rcases at1 i h1 with ⟨h3, h4⟩ | ⟨rfl, h4⟩
    · rw [h4] at hq; exact (hk i h3 q hq).2.1
    · rw [h4] at hq; exact hvX q hq
  · rcases at1 i h1 with ⟨h3, h4⟩ | ⟨rfl, h4⟩
    · rcases at1 j h2 with ⟨h5, h6⟩ | ⟨rfl, h6⟩
      · rw [h4] at hq; rw [h6]; exact h.dist i j h3 h5 hij q hq
      · rw [h4] at hq; rw [h6]; exact (hk i h3 q hq).2.2
    · rcases at1 j h2 with ⟨h5, h6⟩ | ⟨rfl, h6⟩
      · rw [h4] at hq; rw [h6]; exact fun e => (hk j h5 q e).2.2 hq
      · exact absurd rfl hij
theorem blk_set {w : World} {b i : Nat} {cs : Array Value} {T : TypeId} {fr : Nat × Nat} (hb : w.heap[b]? = some (.cells cs T fr)) (v : Value) : (w.setCell ⟨b, i, none⟩ v).heap[b]? = some (.cells (cs.setIfInBounds i v) T fr) := by
  simp [World.setCell, Array.getElem?_modify, hb]
/-- What the book's taking of a list leaves as it was. -/
structure TouchI (w w' : World) (b : Nat) (X Y X' Y' : Value) : Prop where
  below : Below b w w'
  size : w.heap.size ≤ w'.heap.size
  same : ∀ q, q < w.heap.size → q ≠ b → X.ownBlock ≠ some q → Y.ownBlock ≠ some q → w'.heap[q]? = w.heap[q]?
  x : ∀ q, X'.ownBlock = some q → X.ownBlock = some q ∨ w.heap.size ≤ q
  y : ∀ q, Y'.ownBlock = some q → Y.ownBlock = some q ∨ w.heap.size ≤ q
variable {w w1 w4 w5 : World} {b B : Nat} {X Y X' Y' u v : Value} {vs us : List Value} {Ls : List (List Int)} {L : List Int}
theorem BookI.add (h : BookI w b B X Y vs us Ls) (hv : Own eI 3 w B v L) (hf : ∀ q, v.ownBlock = some q → X.ownBlock ≠ some q ∧ Y.ownBlock ≠ some q ∧ ∀ i (h : i < vs.length), vs[i].ownBlock ≠ some q)
    {c1 c5 : Obj} (o1 : Own eV 40 w1 B X' (vs ++ [v])) (g1 : (w.alloc c1).grownBy w1 X.ownBlock) (l1 : X'.ownBlock = X.ownBlock ∨ X'.ownBlock = some (w.heap.size + 1))
    (b4 : Below w1.heap.size (w1.setCell ⟨b, 2, none⟩ X').drew w4) (o4 : Own eI 3 w4 w1.heap.size u L)
    (o5 : Own eV 40 w5 B Y' (us ++ [u])) (g5 : (w4.alloc c5).grownBy w5 Y.ownBlock) (l5 : Y'.ownBlock = Y.ownBlock ∨ Y'.ownBlock = some (w4.heap.size + 1)) :
    BookI (w5.setCell ⟨b, 3, none⟩ Y') b B X' Y' (vs ++ [v]) (us ++ [u]) (Ls ++ [L]) ∧ TouchI w (w5.setCell ⟨b, 3, none⟩ Y') b X Y X' Y' := by
  have hal (w : World) (o : Obj) : (w.alloc o).heap.size = w.heap.size + 1 := by show (w.heap.push o).size = _; simp
  have hst (w : World) (a : Addr) (v : Value) : (w.setCell a v).heap.size = w.heap.size := by simp [World.setCell]
  have s1 : w.heap.size + 1 ≤ w1.heap.size := hal w c1 ▸ g1.size
  have s4 : w1.heap.size ≤ w4.heap.size := by have := b4.size; rwa [show (w1.setCell ⟨b, 2, none⟩ X').drew.heap.size = (w1.setCell ⟨b, 2, none⟩ X').heap.size from rfl, hst] at this
  have s5 : w4.heap.size + 1 ≤ w5.heap.size := hal w4 c5 ▸ g5.size
  have hlt := h.lt
  have hbw := h.bw
  have k1 : ∀ q, q < w.heap.size → X.ownBlock ≠ some q → w1.heap[q]? = w.heap[q]? := fun q hq hq2 => (g1.block q (by rw [hal]; omega) fun e => hq2 e.symm).trans (Below.heap_alloc w c1 q hq)
  have k4 : ∀ q, q < w1.heap.size → q ≠ b → w4.heap[q]? = w1.heap[q]? := fun q hq hq2 => (b4.block q hq).trans (Below.heap_setCell w1 ⟨b, 2, none⟩ X' q hq2)
  have k5 : ∀ q, q < w4.heap.size → Y.ownBlock ≠ some q → w5.heap[q]? = w4.heap[q]? := fun q hq hq2 => (g5.block q (by rw [hal]; omega) fun e => hq2 e.symm).trans (Below.heap_alloc w4 c5 q hq)
  have k6 : ∀ q, q ≠ b → (w5.setCell ⟨b, 3, none⟩ Y').heap[q]? = w5.heap[q]? := fun q hq => Below.heap_setCell w5 ⟨b, 3, none⟩ Y' q hq
  have K : ∀ q, q < w.heap.size → q ≠ b → X.ownBlock ≠ some q → Y.ownBlock ≠ some q → (w5.setCell ⟨b, 3, none⟩ Y').heap[q]? = w.heap[q]? := fun q h1 h2 h3 h4 =>
    (k6 q h2).trans ((k5 q (by omega) h4).trans ((k4 q (by omega) h2).trans (k1 q h1 h3)))
  have bX : X.ownBlock ≠ some b := fun e => by have := (h.rows.outer.lt b e).1; omega
  have bY : Y.ownBlock ≠ some b := fun e => by have := (h.copy.outer.lt b e).1; omega
  have yW : ∀ q, Y.ownBlock = some q → B ≤ q ∧ q < w.heap.size := fun q hq => h.copy.outer.lt q hq
  have xW : ∀ q, X.ownBlock = some q → B ≤ q ∧ q < w.heap.size := fun q hq => h.rows.outer.lt q hq
  have x1W : ∀ q, X'.ownBlock = some q → B ≤ q ∧ q < w1.heap.size := fun q hq => o1.lt q hq
  have x1Y : ∀ q, X'.ownBlock = some q → Y.ownBlock ≠ some q := by
    intro q hq e
    rcases l1 with l | l
    · exact h.sep q (l ▸ hq) e
    · rw [l] at hq; injection hq with hq; have := (yW q e).2; omega
  have e1 : w1.heap[b]? = w.heap[b]? := k1 b (by omega) bX
  have blk2 := blk_set (w := w1) (b := b) (i := 2) (e1.trans h.blk) X'
  have blk4 : w4.heap[b]? = _ := (b4.block b (by omega)).trans blk2
  have blk5 : w5.heap[b]? = _ := (k5 b (by omega) bY).trans blk4
  have blk6 := blk_set (w := w5) (b := b) (i := 3) blk5 Y'
  have nX1 : ∀ q, X.ownBlock ≠ some q → q < w.heap.size → X'.ownBlock ≠ some q := by
    intro q h1 h2 e
    rcases l1 with l | l
    · exact h1 (l ▸ e)
    · rw [l] at e; injection e with e; omega
  have nY1 : ∀ q, Y.ownBlock ≠ some q → q < w4.heap.size → Y'.ownBlock ≠ some q := by
    intro q h1 h2 e
    rcases l5 with l | l
    · exact h1 (l ▸ e)
    · rw [l] at e; injection e with e; omega
  have uW : ∀ q, u.ownBlock = some q → w1.heap.size ≤ q ∧ q < w4.heap.size := fun q hq => o4.lt q hq
  have uY : ∀ q, u.ownBlock = some q → Y.ownBlock ≠ some q := fun q hq e => by have := (uW q hq).1; have := (yW q e).2; omega
  have vW : ∀ q, v.ownBlock = some q → B ≤ q ∧ q < w.heap.size := fun q hq => hv.lt q hq
  have oX : Own eV 40 (w5.setCell ⟨b, 3, none⟩ Y') B X' (vs ++ [v]) := o1.same_block fun q hq => (k6 q fun e => by have := (x1W q hq).1; omega).trans ((k5 q (by have := (x1W q hq).2; omega) (x1Y q hq)).trans (k4 q (x1W q hq).2 fun e => by have := (x1W q hq).1; omega))
  have oV : Own eI 3 (w5.setCell ⟨b, 3, none⟩ Y') B v L := hv.same_block fun q hq => K q (vW q hq).2 (fun e => by have := (vW q hq).1; omega) (hf q hq).1 (hf q hq).2.1
  have oU : Own eI 3 (w5.setCell ⟨b, 3, none⟩ Y') B u L := (o4.lower (by omega : B ≤ w1.heap.size)).same_block fun q hq => (k6 q fun e => by have := (uW q hq).1; omega).trans (k5 q (uW q hq).2 (uY q hq))
  have oY : Own eV 40 (w5.setCell ⟨b, 3, none⟩ Y') B Y' (us ++ [u]) := o5.same_block fun q hq => k6 q fun e => by have := (o5.lt q hq).1; omega
  refine ⟨⟨blk6, hlt, by rw [hst]; omega, h.rows.snoc (fun i h1 q hq => ?_) oX oV (fun q hq => nX1 q (hf q hq).1 (vW q hq).2), h.copy.snoc (fun i h1 q hq => ?_) oY oU (fun q hq => nY1 q (uY q hq) (uW q hq).2), fun q hq => ?_, fun i h1 q hq => ?_, fun i h1 q hq => ?_⟩, ⟨?_, by rw [hst]; omega, K, fun q hq => ?_, fun q hq => ?_⟩⟩
  · have hn := h.rows.n
    have hq2 := (h.rows.inner i h1 (by omega)).lt q hq
    exact ⟨K q hq2.2 (by omega) (h.rows.apart i h1 q hq) (h.vY i h1 q hq), nX1 q (h.rows.apart i h1 q hq) hq2.2, fun e => (hf q e).2.2 i h1 hq⟩
  · have hn := h.copy.n
    have hq2 := (h.copy.inner i h1 (by omega)).lt q hq
    exact ⟨K q hq2.2 (by omega) (h.uX i h1 q hq) (h.copy.apart i h1 q hq), nY1 q (h.copy.apart i h1 q hq) (by omega), fun e => by have := (uW q e).1; omega⟩
  · exact nY1 q (x1Y q hq) (by have := (x1W q hq).2; omega)
  · by_cases h2 : i < vs.length
    · rw [List.getElem_append_left h2] at hq
      have hn := h.rows.n
      exact nY1 q (h.vY i h2 q hq) (by have := ((h.rows.inner i h2 (by omega)).lt q hq).2; omega)
    · have h3 : i = vs.length := by simp at h1; omega
      subst h3
      simp at hq
      exact nY1 q (hf q hq).2.1 (by have := (vW q hq).2; omega)
  · by_cases h2 : i < us.length
    · rw [List.getElem_append_left h2] at hq
      have hn := h.copy.n
      exact nX1 q (h.uX i h2 q hq) ((h.copy.inner i h2 (by omega)).lt q hq).2
    · have h3 : i = us.length := by simp at h1; omega
      subst h3
      simp at hq
      intro e
      have := (uW q hq).1
      have := (x1W q e).2
      omega
  · have B0 : Below b w (w.alloc c1) := (Below.refl b w).alloc (by omega) c1
    have B1 : Below b w w1 := B0.grown g1 (by rw [hal]; omega) fun q hq => by have := (xW q hq).1; omega
    have B2 : Below b w (w1.setCell ⟨b, 2, none⟩ X').drew := (B1.setCell (p := ⟨b, 2, none⟩) (Nat.le_refl b) X').drew
    have B4 : Below b w w4 := B2.trans (b4.mono (by omega))
    have B5 : Below b w w5 := (B4.alloc (by omega) c5).grown g5 (by rw [hal]; omega) fun q hq => by have := (yW q hq).1; omega
    exact B5.setCell (p := ⟨b, 3, none⟩) (Nat.le_refl b) Y'
  · rcases l1 with l | l
    · exact .inl (l ▸ hq)
    · rw [l] at hq; injection hq with hq; exact .inr (by omega)
  · rcases l5 with l | l
    · exact .inl (l ▸ hq)
    · rw [l] at hq; injection hq with hq; exact .inr (by omega)
end Go.Proofs.Ytdpbjigdihajjaa
