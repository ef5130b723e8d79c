/- Rows of the call's own, as lists of elements: made, appended to, written into, read. -/
import Derived.Test.YtdpbjigdihajjaaDoorLib
import Derived.Deep.AppendLies
namespace Go.Proofs.YtdpbjigdihajjaaDoor
open Go.RowKit

section
variable {α : Type}
def Enc.cells (E : Enc α) (x : α) : List Value := (List.range E.sz).map (E.cell x)
def Enc.flat (E : Enc α) (xs : List α) : List Value := xs.flatMap E.cells
variable {E : Enc α}
theorem Enc.cells_len (x : α) : (E.cells x).length = E.sz := by simp [Enc.cells]
theorem Enc.flat_len (xs : List α) : (E.flat xs).length = xs.length * E.sz := by
  unfold Enc.flat
  induction xs with
  | nil => simp
  | cons x xs ih => rw [List.flatMap_cons, List.length_append, ih, Enc.cells_len, List.length_cons, Nat.add_mul]; omega
theorem Enc.flat_app (xs ys : List α) : E.flat (xs ++ ys) = E.flat xs ++ E.flat ys := by simp [Enc.flat]
theorem Enc.flat_one (x : α) : E.flat [x] = E.cells x := by simp [Enc.flat]
theorem Enc.flat_at {xs : List α} {i j : Nat} (hi : i < xs.length) (hj : j < E.sz) : (E.flat xs)[i * E.sz + j]? = some (E.cell xs[i] j) := by
  induction xs generalizing i with
  | nil => simp at hi
  | cons x xs ih =>
    unfold Enc.flat
    rw [List.flatMap_cons]
    cases i with
    | zero =>
      rw [List.getElem?_append_left (by rw [Enc.cells_len]; omega)]
      simp [Enc.cells, hj]
    | succ i =>
      rw [List.getElem?_append_right (by rw [Enc.cells_len, Nat.add_mul]; omega), Enc.cells_len, show (i + 1) * E.sz + j - E.sz = i * E.sz + j by rw [Nat.add_mul]; omega]
      exact ih (by simpa using hi)
theorem Enc.flat_one' {xs : List α} (h : ∀ u ∈ E.flat xs, u.oneCell' = true) (x : α) (hx : x ∈ xs) : ∀ u ∈ E.cells x, u.oneCell' = true :=
  fun u hu => h u (List.mem_flatMap.2 ⟨x, hx, hu⟩)

/-- v is a row of the call's own (from block base on), of the elements xs. -/
def Own (E : Enc α) (e : TypeId) (w : World) (base : Nat) (v : Value) (xs : List α) : Prop := w.ownsRow base e E.sz v xs.length (E.flat xs)

variable {e : TypeId} {w w' : World} {base : Nat} {v : Value} {xs : List α}
theorem Own.nil (E : Enc α) (e : TypeId) (w : World) (base : Nat) : Own E e w base (.slice none 0 0) [] := World.ownsRow_nil _ _ _ _
theorem Own.lower (h : Own E e w base v xs) {base' : Nat} (hb : base' ≤ base) : Own E e w base' v xs := own_lower h hb
theorem Own.below (h : Own E e w base v xs) (hb : Below w.heap.size w w') : Own E e w' base v xs := own_below h hb
theorem Own.alloc (h : Own E e w base v xs) (o : Obj) : Own E e (w.alloc o) base v xs := World.ownsRow.alloc h o
theorem Own.drewN (h : Own E e w base v xs) (n : Nat) : Own E e (w.drewN n) base v xs := h
theorem Own.grown (h : Own E e w base v xs) {row : Option Nat} (hg : w.grownBy w' row) (hne : v.ownBlock = none ∨ v.ownBlock ≠ row) : Own E e w' base v xs := World.ownsRow.kept h hg hne
theorem Own.lt (h : Own E e w base v xs) : ∀ k, v.ownBlock = some k → base ≤ k ∧ k < w.heap.size := World.ownsRow.lt h
/-- The shape of the value. -/
theorem Own.shape (h : Own E e w base v xs) : (v = .slice none 0 0 ∧ xs = []) ∨ ∃ g cap, v = .slice (some ⟨g, 0, none⟩) xs.length cap ∧ base ≤ g ∧ g < w.heap.size ∧ xs.length ≤ cap ∧ cap ≤ maxLen := by
  rcases h.2 with ⟨h1, h2⟩ | ⟨g, cap, cur, h1, hb, hg, hnc, hm, _⟩
  · exact .inl ⟨h1, List.eq_nil_of_length_eq_zero h2⟩
  · exact .inr ⟨g, cap, h1, hb, (Array.getElem?_eq_some_iff.1 hg).1, hnc, hm⟩
theorem Own.sl (h : Own E e w base v xs) : ∃ A c, v = .slice A xs.length c ∧ Sl E w A xs.length c xs ∧ (∀ b off, A = some ⟨b, off, none⟩ → base ≤ b) := by
  rcases h.2 with ⟨rfl, h2⟩ | ⟨g, cap, cur, rfl, hb, hg, hnc, hm, hs, ht⟩
  · exact ⟨none, 0, by rw [h2], ⟨rfl, by omega, by omega, fun h => by omega⟩, fun _ _ h => by cases h⟩
  · refine ⟨_, _, rfl, ⟨rfl, hnc, hm, fun _ => ⟨g, 0, rfl, (Array.getElem?_eq_some_iff.1 hg).1, fun i hi j hj => ?_⟩⟩, fun b off e => by injection e with e; injection e with e; omega⟩
    have hlt : i * E.sz + j < xs.length * E.sz := by
      have : (i + 1) * E.sz ≤ xs.length * E.sz := Nat.mul_le_mul_right _ hi
      rw [Nat.add_mul] at this; omega
    have := World.ownsRow.cellAt h (0 + i * E.sz + j) (by omega)
    rw [this, Nat.zero_add, Enc.flat_at hi hj]
theorem Own.cell {b o n c : Nat} (h : Own E e w base (.slice (some ⟨b, o, none⟩) n c) xs) {i : Nat} (hi : i < xs.length) {j : Nat} (hj : j < E.sz) : w.cell? ⟨b, o + i * E.sz + j, none⟩ = some (E.cell xs[i] j) := by
  obtain ⟨A, c', hv, hs, _⟩ := h.sl
  injection hv with hv _ _
  obtain ⟨b', o', hb, _, hr⟩ := hs.2.2.2 (by omega)
  rw [hb] at hv
  injection hv with hv
  injection hv with h1 h2
  subst h1; subst h2
  exact hr i hi j hj
/-- A literal list lies in a new block. -/
theorem Own.lit (w : World) (cs : Array Value) (n : Nat) (hn : xs.length = n) (hcs : cs.toList = E.flat xs) (hm : n ≤ maxLen) (hb : base ≤ w.heap.size) : Own E e (w.alloc (.cells cs e)) base (.slice (some ⟨w.heap.size, 0, none⟩) n n) xs := by
  subst hn
  have hl : cs.size = xs.length * E.sz := by rw [← Array.length_toList, hcs, Enc.flat_len]
  have := World.ownsRow_lit (base := base) (e := e) (size := E.sz) w cs xs.length hb hm hl
  rw [hcs] at this
  exact this

variable {P : Program} {ops : Array Oper} {rest : List Oper} {o : Oper} {a : Act} {Q : Exit → Act → World → Prop}
/-- append(v, x): one element behind a row of the call's own. -/
theorem wpList_append_one (E : Enc α) (hgd : o.guard = none) (s y : Operand) (t : TypeId) (ho : o.op = .call { callee := .builtin .append, args := #[s, y], argTypes := #[t, t] })
    (base : Nat) (e : TypeId) (i : TypeInfo) (z : Value) (bytes : Nat) (ht : P.underlying t = some (.slice e)) (hi : P.info? e = some i) (hz : i.zero = some z)
    (hsize : i.size = E.sz) (hby : i.bytes = bytes) (hzs : z.cells.size = E.sz) (hsz : 0 < E.sz) (v : Value) (xs : List α) (hs : a.eval s = v) (w : World) (hown : Own E e w base v xs)
    (x : α) (cs : Array Value) (hcs : cs.toList = E.cells x) (hx : a.eval y = .slice (some ⟨w.heap.size, 0, none⟩) 1 1) (h1 : ∀ u ∈ cs.toList, u.oneCell' = true)
    (h63 : xs.length + 1 ≤ maxLen) (hbytes : (xs.length + 1) * bytes ≤ 140737488355328) (hbase : base ≤ w.heap.size)
    (h : ∀ v' w', Own E e w' base v' (xs ++ [x]) → (w.alloc (.cells cs e)).grownBy w' v.ownBlock → (v'.ownBlock = v.ownBlock ∨ v'.ownBlock = some (w.heap.size + 1)) → wpList P ops Q rest (a.put o.dst v') w') :
    wpList P ops Q (o :: rest) a (w.alloc (.cells cs e)) := by
  refine wpList_append_own_at _ hgd s y t ho base e i z E.sz bytes ht hi hz hsize hby hzs hsz v xs.length (E.flat xs) hs (World.ownsRow.alloc hown _) ⟨w.heap.size, 0, none⟩ 1 1 (E.cells x) hx (by rw [Enc.cells_len, Nat.one_mul]) (fun j u hj => ?_) (by rw [← hcs]; exact h1) h63 hbytes (by simp; omega) fun v' w' h1 h2 _ h4 => h v' w' ?_ h2 (by simpa using h4)
  · rw [← hcs] at hj
    rw [Go.WideShapes.add_plain, World.cell?_alloc_at _ _ _ _ rfl, Nat.zero_add]
    simpa using hj
  · unfold Own
    rw [List.length_append, Enc.flat_app, Enc.flat_one]
    exact h1
/-- append(v, l...): a list that is read behind a row of the call's own. -/
theorem wpList_append_sl (E : Enc α) (hgd : o.guard = none) (s y : Operand) (t : TypeId) (ho : o.op = .call { callee := .builtin .append, args := #[s, y], argTypes := #[t, t] })
    (base : Nat) (e : TypeId) (i : TypeInfo) (z : Value) (bytes : Nat) (ht : P.underlying t = some (.slice e)) (hi : P.info? e = some i) (hz : i.zero = some z)
    (hsize : i.size = E.sz) (hby : i.bytes = bytes) (hzs : z.cells.size = E.sz) (hsz : 0 < E.sz) (v : Value) (xs : List α) (hs : a.eval s = v) (w : World) (hown : Own E e w base v xs)
    (A : Option Addr) (n c : Nat) (ys : List α) (hy : a.eval y = .slice A n c) (hr : Sl E w A n c ys) (h1 : ∀ u ∈ E.flat ys, u.oneCell' = true)
    (h63 : xs.length + n ≤ maxLen) (hbytes : (xs.length + n) * bytes ≤ 140737488355328) (hbase : base ≤ w.heap.size)
    (h : ∀ v' w', Own E e w' base v' (xs ++ ys) → w.grownBy w' v.ownBlock → (v'.ownBlock = v.ownBlock ∨ v'.ownBlock = some w.heap.size) → wpList P ops Q rest (a.put o.dst v') w') :
    wpList P ops Q (o :: rest) a w := by
  have hn := hr.1
  rcases Nat.eq_zero_or_pos n with h0 | h0
  · subst h0
    have hys : ys = [] := List.eq_nil_of_length_eq_zero hn.symm
    subst hys
    rcases A with _ | ad
    · have hrun : (Builtin.append_ #[t, t] o.type #[v, .slice none 0 c]).run P w = .ok v w := by
        rcases hown.2 with ⟨rfl, _⟩ | ⟨g, cap, cur, rfl, _, _, hnc, _⟩
        · simp [Builtin.append_, run_underlying ht, sizeOf, typeInfo, hi, Builtin.lenOf, Builtin.firstCells]
        · simp [Builtin.append_, run_underlying ht, sizeOf, typeInfo, hi, Builtin.lenOf, Builtin.firstCells, hnc, storeCells]
      refine wpList_plain hgd fun K hK => ?_
      unfold Oper.wp execOp
      simp only [ho, resolve, invoke, builtin, Sem.run_bind, Sem.run_pure, Result.andThen_ok, List.map_toArray, List.map_cons, List.map_nil, hs, hy, hrun]
      exact hK _ _ (h v w (by simpa using hown) (World.grownBy.refl w _) (.inl rfl))
    · exact wpList_append_own_at _ hgd s y t ho base e i z E.sz bytes ht hi hz hsize hby hzs hsz v xs.length (E.flat xs) hs hown ad 0 c [] hy (by simp) (fun j u hj => by simp at hj) (by simp) h63 hbytes hbase fun v' w' h1 h2 _ h4 => h v' w' (by unfold Own; simpa using h1) h2 h4
  · obtain ⟨b, off, rfl, hb, hrd⟩ := hr.2.2.2 h0
    refine wpList_append_own_at _ hgd s y t ho base e i z E.sz bytes ht hi hz hsize hby hzs hsz v xs.length (E.flat xs) hs hown ⟨b, off, none⟩ n c (E.flat ys) hy (by rw [Enc.flat_len, hn]) (fun j u hj => ?_) h1 h63 hbytes hbase fun v' w' h1 h2 _ h4 => h v' w' ?_ h2 h4
    · have hjl : j < ys.length * E.sz := by rw [← Enc.flat_len]; exact (List.getElem?_eq_some_iff.1 hj).1
      have hd : j = j / E.sz * E.sz + j % E.sz := (Nat.div_add_mod' j E.sz).symm
      have hi' : j / E.sz < ys.length := (Nat.div_lt_iff_lt_mul hsz).2 hjl
      have hm' : j % E.sz < E.sz := Nat.mod_lt _ hsz
      rw [Go.WideShapes.add_plain]
      rw [hd, Enc.flat_at hi' hm'] at hj
      have := hrd _ hi' _ hm'
      rw [Nat.add_assoc, ← hd] at this
      rw [this, ← hj]
    · unfold Own
      rw [List.length_append, Enc.flat_app, ← hn]
      exact h1
/-- One cell of an element of a row is stored. -/
theorem Own.set {g n c : Nat} (h : Own E e w base (.slice (some ⟨g, 0, none⟩) n c) xs) {i : Nat} (hi : i < xs.length) {j : Nat} (hj : j < E.sz) (u : Value) (x : α) (hx : ∀ k, k < E.sz → E.cell x k = if k = j then u else E.cell xs[i] k) :
    Own E e (w.setCell ⟨g, i * E.sz + j, none⟩ u) base (.slice (some ⟨g, 0, none⟩) n c) (xs.set i x) := by
  have hn : n = xs.length := by
    obtain ⟨_, _, hv, _⟩ := h.sl
    injection hv
  subst hn
  have hlt : i * E.sz + j < xs.length * E.sz := by
    have : (i + 1) * E.sz ≤ xs.length * E.sz := Nat.mul_le_mul_right _ hi
    rw [Nat.add_mul] at this; omega
  have hst := World.ownsRow.stored h (i * E.sz + j) u
  unfold Own
  rw [List.length_set]
  have : E.flat (xs.set i x) = (E.flat xs).set (i * E.sz + j) u := by
    apply List.ext_getElem?
    intro k
    have hsz : 0 < E.sz := by omega
    by_cases hk : k < xs.length * E.sz
    · have hd : k = k / E.sz * E.sz + k % E.sz := (Nat.div_add_mod' k E.sz).symm
      have hi' : k / E.sz < xs.length := (Nat.div_lt_iff_lt_mul hsz).2 hk
      have hm' : k % E.sz < E.sz := Nat.mod_lt _ hsz
      have e1 := Enc.flat_at (E := E) (xs := xs.set i x) (i := k / E.sz) (j := k % E.sz) (by simpa using hi') hm'
      have e2 := Enc.flat_at (E := E) (xs := xs) (i := k / E.sz) (j := k % E.sz) hi' hm'
      rw [← hd] at e1 e2
      rw [e1, List.getElem?_set]
      by_cases hki : k / E.sz = i
      · subst hki
        rw [List.getElem_set_self, hx _ hm']
        by_cases hkj : k % E.sz = j
        · have : k / E.sz * E.sz + j = k := by rw [← hkj]; exact hd.symm
          rw [if_pos this, if_pos hkj, if_pos (by rw [Enc.flat_len]; omega)]
        · rw [if_neg hkj, if_neg (by intro h; apply hkj; rw [← h, Nat.mul_comm, Nat.mul_add_mod, Nat.mod_eq_of_lt hj]), e2]
      · rw [List.getElem_set_ne (fun h => hki h.symm), if_neg, e2]
        intro h
        apply hki
        rw [← h, Nat.mul_comm, Nat.mul_add_div hsz, Nat.div_eq_of_lt hj, Nat.add_zero]
    · rw [List.getElem?_eq_none (by rw [Enc.flat_len, List.length_set]; omega), List.getElem?_eq_none (by rw [List.length_set, Enc.flat_len]; omega)]
  rw [this]
  exact hst.1
theorem Own.frozen {g n c : Nat} (h : Own E e w base (.slice (some ⟨g, 0, none⟩) n c) xs) (j : Nat) : w.frozen? ⟨g, j, none⟩ = false := World.ownsRow.frozenAt (n := xs.length) (by
  have hn : n = xs.length := by
    obtain ⟨_, _, hv, _⟩ := h.sl
    injection hv
  subst hn
  exact h) j
end
end Go.Proofs.YtdpbjigdihajjaaDoor
