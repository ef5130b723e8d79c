/- Joined texts: Own, Shv, BookOwn, AppOne, Chg, In, AppendW, Ints, Ext, SameE, SameS. -/
import Derived.Test.YtnpgjdhigcjihaaGreatDoorPP01
import Derived.Deep.AppendLies
/- Rows of the call's own, as lists of elements: made, appended to, written into, read. -/
namespace Go.Proofs.YtnpgjdhigcjihaaGreatDoor
open Go.RowKit

section
variable {α : Type}
def Enc.cells (E : Enc α) (x : α) : List Value := (List.range E.sz).map (E.cell x)
def Enc.flat (E : Enc α) (xs : List α) : List Value := xs.flatMap E.cells
variable {E : Enc α}
theorem Enc.cells_len (x : α) : (E.cells x).length = E.sz := by simp [Enc.cells]
theorem Enc.flat_len (xs : List α) : (E.flat xs).length = xs.length * E.sz := by
  unfold Enc.flat
  induction xs with
  | nil => simp
  | cons x xs ih => rw [List.flatMap_cons, List.length_append, ih, Enc.cells_len, List.length_cons, Nat.add_mul]; omega
theorem Enc.flat_app (xs ys : List α) : E.flat (xs ++ ys) = E.flat xs ++ E.flat ys := by simp [Enc.flat]
theorem Enc.flat_one (x : α) : E.flat [x] = E.cells x := by simp [Enc.flat]
theorem Enc.flat_at {xs : List α} {i j : Nat} (hi : i < xs.length) (hj : j < E.sz) : (E.flat xs)[i * E.sz + j]? = some (E.cell xs[i] j) := by
  induction xs generalizing i with
  | nil => simp at hi
  | cons x xs ih =>
    unfold Enc.flat
    rw [List.flatMap_cons]
    cases i with
    | zero =>
      rw [List.getElem?_append_left (by rw [Enc.cells_len]; omega)]
      simp [Enc.cells, hj]
    | succ i =>
      rw [List.getElem?_append_right (by rw [Enc.cells_len, Nat.add_mul]; omega), Enc.cells_len, show (i + 1) * E.sz + j - E.sz = i * E.sz + j by rw [Nat.add_mul]; omega]
      exact ih (by simpa using hi)
theorem Enc.flat_one' {xs : List α} (h : ∀ u ∈ E.flat xs, u.oneCell' = true) (x : α) (hx : x ∈ xs) : ∀ u ∈ E.cells x, u.oneCell' = true :=
  fun u hu => h u (List.mem_flatMap.2 ⟨x, hx, hu⟩)

/-- v is a row of the call's own (from block base on), of the elements xs. -/
def Own (E : Enc α) (e : TypeId) (w : World) (base : Nat) (v : Value) (xs : List α) : Prop := w.ownsRow base e E.sz v xs.length (E.flat xs)

variable {e : TypeId} {w w' : World} {base : Nat} {v : Value} {xs : List α}
theorem Own.nil (E : Enc α) (e : TypeId) (w : World) (base : Nat) : Own E e w base (.slice none 0 0) [] := World.ownsRow_nil _ _ _ _
theorem Own.lower (h : Own E e w base v xs) {base' : Nat} (hb : base' ≤ base) : Own E e w base' v xs := own_lower h hb
theorem Own.below (h : Own E e w base v xs) (hb : Below w.heap.size w w') : Own E e w' base v xs := own_below h hb
theorem Own.alloc (h : Own E e w base v xs) (o : Obj) : Own E e (w.alloc o) base v xs := World.ownsRow.alloc h o
theorem Own.drewN (h : Own E e w base v xs) (n : Nat) : Own E e (w.drewN n) base v xs := h
theorem Own.grown (h : Own E e w base v xs) {row : Option Nat} (hg : w.grownBy w' row) (hne : v.ownBlock = none ∨ v.ownBlock ≠ row) : Own E e w' base v xs := World.ownsRow.kept h hg hne
theorem Own.lt (h : Own E e w base v xs) : ∀ k, v.ownBlock = some k → base ≤ k ∧ k < w.heap.size := World.ownsRow.lt h
/-- The shape of the value. -/
theorem Own.shape (h : Own E e w base v xs) : (v = .slice none 0 0 ∧ xs = []) ∨ ∃ g cap, v = .slice (some ⟨g, 0, none⟩) xs.length cap ∧ base ≤ g ∧ g < w.heap.size ∧ xs.length ≤ cap ∧ cap ≤ maxLen := by
  rcases h.2 with ⟨h1, h2⟩ | ⟨g, cap, cur, h1, hb, hg, hnc, hm, _⟩
  · exact .inl ⟨h1, List.eq_nil_of_length_eq_zero h2⟩
  · exact .inr ⟨g, cap, h1, hb, (Array.getElem?_eq_some_iff.1 hg).1, hnc, hm⟩
theorem Own.sl (h : Own E e w base v xs) : ∃ A c, v = .slice A xs.length c ∧ Sl E w A xs.length c xs ∧ (∀ b off, A = some ⟨b, off, none⟩ → base ≤ b) := by
  rcases h.2 with ⟨rfl, h2⟩ | ⟨g, cap, cur, rfl, hb, hg, hnc, hm, hs, ht⟩
  · exact ⟨none, 0, by rw [h2], ⟨rfl, by omega, by omega, fun h => by omega⟩, fun _ _ h => by cases h⟩
  · refine ⟨_, _, rfl, ⟨rfl, hnc, hm, fun _ => ⟨g, 0, rfl, (Array.getElem?_eq_some_iff.1 hg).1, fun i hi j hj => ?_⟩⟩, fun b off e => by injection e with e; injection e with e; omega⟩
    have hlt : i * E.sz + j < xs.length * E.sz := by
      have : (i + 1) * E.sz ≤ xs.length * E.sz := Nat.mul_le_mul_right _ hi
      rw [Nat.add_mul] at this; omega
    have := World.ownsRow.cellAt h (0 + i * E.sz + j) (by omega)
    rw [this, Nat.zero_add, Enc.flat_at hi hj]
theorem Own.cell {b o n c : Nat} (h : Own E e w base (.slice (some ⟨b, o, none⟩) n c) xs) {i : Nat} (hi : i < xs.length) {j : Nat} (hj : j < E.sz) : w.cell? ⟨b, o + i * E.sz + j, none⟩ = some (E.cell xs[i] j) := by
  obtain ⟨A, c', hv, hs, _⟩ := h.sl
  injection hv with hv _ _
  obtain ⟨b', o', hb, _, hr⟩ := hs.2.2.2 (by omega)
  rw [hb] at hv
  injection hv with hv
  injection hv with h1 h2
  subst h1; subst h2
  exact hr i hi j hj
/-- A literal list lies in a new block. -/
theorem Own.lit (w : World) (cs : Array Value) (n : Nat) (hn : xs.length = n) (hcs : cs.toList = E.flat xs) (hm : n ≤ maxLen) (hb : base ≤ w.heap.size) : Own E e (w.alloc (.cells cs e)) base (.slice (some ⟨w.heap.size, 0, none⟩) n n) xs := by
  subst hn
  have hl : cs.size = xs.length * E.sz := by rw [← Array.length_toList, hcs, Enc.flat_len]
  have := World.ownsRow_lit (base := base) (e := e) (size := E.sz) w cs xs.length hb hm hl
  rw [hcs] at this
  exact this

variable {P : Program} {ops : Array Oper} {rest : List Oper} {o : Oper} {a : Act} {Q : Exit → Act → World → Prop}
/-- append(v, x): one element behind a row of the call's own. -/
theorem wpList_append_one (E : Enc α) (hgd : o.guard = none) (s y : Operand) (t : TypeId) (ho : o.op = .call { callee := .builtin .append, args := #[s, y], argTypes := #[t, t] })
    (base : Nat) (e : TypeId) (i : TypeInfo) (z : Value) (bytes : Nat) (ht : P.underlying t = some (.slice e)) (hi : P.info? e = some i) (hz : i.zero = some z)
    (hsize : i.size = E.sz) (hby : i.bytes = bytes) (hzs : z.cells.size = E.sz) (hsz : 0 < E.sz) (v : Value) (xs : List α) (hs : a.eval s = v) (w : World) (hown : Own E e w base v xs)
    (x : α) (cs : Array Value) (hcs : cs.toList = E.cells x) (hx : a.eval y = .slice (some ⟨w.heap.size, 0, none⟩) 1 1) (h1 : ∀ u ∈ cs.toList, u.oneCell' = true)
    (h63 : xs.length + 1 ≤ maxLen) (hbytes : (xs.length + 1) * bytes ≤ 140737488355328) (hbase : base ≤ w.heap.size)
    (h : ∀ v' w', Own E e w' base v' (xs ++ [x]) → (w.alloc (.cells cs e)).grownBy w' v.ownBlock → (v'.ownBlock = v.ownBlock ∨ v'.ownBlock = some (w.heap.size + 1)) → wpList P ops Q rest (a.put o.dst v') w') :
    wpList P ops Q (o :: rest) a (w.alloc (.cells cs e)) := by
  refine wpList_append_own_at _ hgd s y t ho base e i z E.sz bytes ht hi hz hsize hby hzs hsz v xs.length (E.flat xs) hs (World.ownsRow.alloc hown _) ⟨w.heap.size, 0, none⟩ 1 1 (E.cells x) hx (by rw [Enc.cells_len, Nat.one_mul]) (fun j u hj => ?_) (by rw [← hcs]; exact h1) h63 hbytes (by simp; omega) fun v' w' h1 h2 _ h4 => h v' w' ?_ h2 (by simpa using h4)
  · rw [← hcs] at hj
    rw [Go.WideShapes.add_plain, World.cell?_alloc_at _ _ _ _ rfl, Nat.zero_add]
    simpa using hj
  · unfold Own
    rw [List.length_append, Enc.flat_app, Enc.flat_one]
    exact h1
/-- append(v, l...): a list that is read behind a row of the call's own. -/
theorem wpList_append_sl (E : Enc α) (hgd : o.guard = none) (s y : Operand) (t : TypeId) (ho : o.op = .call { callee := .builtin .append, args := #[s, y], argTypes := #[t, t] })
    (base : Nat) (e : TypeId) (i : TypeInfo) (z : Value) (bytes : Nat) (ht : P.underlying t = some (.slice e)) (hi : P.info? e = some i) (hz : i.zero = some z)
    (hsize : i.size = E.sz) (hby : i.bytes = bytes) (hzs : z.cells.size = E.sz) (hsz : 0 < E.sz) (v : Value) (xs : List α) (hs : a.eval s = v) (w : World) (hown : Own E e w base v xs)
    (A : Option Addr) (n c : Nat) (ys : List α) (hy : a.eval y = .slice A n c) (hr : Sl E w A n c ys) (h1 : ∀ u ∈ E.flat ys, u.oneCell' = true)
    (h63 : xs.length + n ≤ maxLen) (hbytes : (xs.length + n) * bytes ≤ 140737488355328) (hbase : base ≤ w.heap.size)
    (h : ∀ v' w', Own E e w' base v' (xs ++ ys) → w.grownBy w' v.ownBlock → (v'.ownBlock = v.ownBlock ∨ v'.ownBlock = some w.heap.size) → wpList P ops Q rest (a.put o.dst v') w') :
    wpList P ops Q (o :: rest) a w := by
  have hn := hr.1
  rcases Nat.eq_zero_or_pos n with h0 | h0
  · subst h0
    have hys : ys = [] := List.eq_nil_of_length_eq_zero hn.symm
    subst hys
    rcases A with _ | ad
    · have hrun : (Builtin.append_ #[t, t] o.type #[v, .slice none 0 c]).run P w = .ok v w := by
        rcases hown.2 with ⟨rfl, _⟩ | ⟨g, cap, cur, rfl, _, _, hnc, _⟩
        · simp [Builtin.append_, run_underlying ht, sizeOf, typeInfo, hi, Builtin.lenOf, Builtin.firstCells]
        · simp [Builtin.append_, run_underlying ht, sizeOf, typeInfo, hi, Builtin.lenOf, Builtin.firstCells, hnc, storeCells]
      refine wpList_plain hgd fun K hK => ?_
      unfold Oper.wp execOp
      simp only [ho, resolve, invoke, builtin, Sem.run_bind, Sem.run_pure, Result.andThen_ok, List.map_toArray, List.map_cons, List.map_nil, hs, hy, hrun]
      exact hK _ _ (h v w (by simpa using hown) (World.grownBy.refl w _) (.inl rfl))
    · exact wpList_append_own_at _ hgd s y t ho base e i z E.sz bytes ht hi hz hsize hby hzs hsz v xs.length (E.flat xs) hs hown ad 0 c [] hy (by simp) (fun j u hj => by simp at hj) (by simp) h63 hbytes hbase fun v' w' h1 h2 _ h4 => h v' w' (by unfold Own; simpa using h1) h2 h4
  · obtain ⟨b, off, rfl, hb, hrd⟩ := hr.2.2.2 h0
    refine wpList_append_own_at _ hgd s y t ho base e i z E.sz bytes ht hi hz hsize hby hzs hsz v xs.length (E.flat xs) hs hown ⟨b, off, none⟩ n c (E.flat ys) hy (by rw [Enc.flat_len, hn]) (fun j u hj => ?_) h1 h63 hbytes hbase fun v' w' h1 h2 _ h4 => h v' w' ?_ h2 h4
    · have hjl : j < ys.length * E.sz := by rw [← Enc.flat_len]; exact (List.getElem?_eq_some_iff.1 hj).1
      have hd : j = j / E.sz * E.sz + j % E.sz := (Nat.div_add_mod' j E.sz).symm
      have hi' : j / E.sz < ys.length := (Nat.div_lt_iff_lt_mul hsz).2 hjl
      have hm' : j % E.sz < E.sz := Nat.mod_lt _ hsz
      rw [Go.WideShapes.add_plain]
      rw [hd, Enc.flat_at hi' hm'] at hj
      have := hrd _ hi' _ hm'
      rw [Nat.add_assoc, ← hd] at this
      rw [this, ← hj]
    · unfold Own
      rw [List.length_append, Enc.flat_app, ← hn]
      exact h1
/-- One cell of an element of a row is stored. -/
theorem Own.set {g n c : Nat} (h : Own E e w base (.slice (some ⟨g, 0, none⟩) n c) xs) {i : Nat} (hi : i < xs.length) {j : Nat} (hj : j < E.sz) (u : Value) (x : α) (hx : ∀ k, k < E.sz → E.cell x k = if k = j then u else E.cell xs[i] k) :
    Own E e (w.setCell ⟨g, i * E.sz + j, none⟩ u) base (.slice (some ⟨g, 0, none⟩) n c) (xs.set i x) := by
  have hn : n = xs.length := by
    obtain ⟨_, _, hv, _⟩ := h.sl
    injection hv
  subst hn
  have hlt : i * E.sz + j < xs.length * E.sz := by
    have : (i + 1) * E.sz ≤ xs.length * E.sz := Nat.mul_le_mul_right _ hi
    rw [Nat.add_mul] at this; omega
  have hst := World.ownsRow.stored h (i * E.sz + j) u
  unfold Own
  rw [List.length_set]
  have : E.flat (xs.set i x) = (E.flat xs).set (i * E.sz + j) u := by
    apply List.ext_getElem?
    intro k
    have hsz : 0 < E.sz := by omega
    by_cases hk : k < xs.length * E.sz
    · have hd : k = k / E.sz * E.sz + k % E.sz := (Nat.div_add_mod' k E.sz).symm
      have hi' : k / E.sz < xs.length := (Nat.div_lt_iff_lt_mul hsz).2 hk
      have hm' : k % E.sz < E.sz := Nat.mod_lt _ hsz
      have e1 := Enc.flat_at (E := E) (xs := xs.set i x) (i := k / E.sz) (j := k % E.sz) (by simpa using hi') hm'
      have e2 := Enc.flat_at (E := E) (xs := xs) (i := k / E.sz) (j := k % E.sz) hi' hm'
      rw [← hd] at e1 e2
      rw [e1, List.getElem?_set]
      by_cases hki : k / E.sz = i
      · subst hki
        rw [List.getElem_set_self, hx _ hm']
        by_cases hkj : k % E.sz = j
        · have : k / E.sz * E.sz + j = k := by rw [← hkj]; exact hd.symm
          rw [if_pos this, if_pos hkj, if_pos (by rw [Enc.flat_len]; omega)]
        · rw [if_neg hkj, if_neg (by intro h; apply hkj; rw [← h, Nat.mul_comm, Nat.mul_add_mod, Nat.mod_eq_of_lt hj]), e2]
      · rw [List.getElem_set_ne (fun h => hki h.symm), if_neg, e2]
        intro h
        apply hki
        rw [← h, Nat.mul_comm, Nat.mul_add_div hsz, Nat.div_eq_of_lt hj, Nat.add_zero]
    · rw [List.getElem?_eq_none (by rw [Enc.flat_len, List.length_set]; omega), List.getElem?_eq_none (by rw [List.length_set, Enc.flat_len]; omega)]
  rw [this]
  exact hst.1
theorem Own.frozen {g n c : Nat} (h : Own E e w base (.slice (some ⟨g, 0, none⟩) n c) xs) (j : Nat) : w.frozen? ⟨g, j, none⟩ = false := World.ownsRow.frozenAt (n := xs.length) (by
  have hn : n = xs.length := by
    obtain ⟨_, _, hv, _⟩ := h.sl
    injection hv
  subst hn
  exact h) j
end
end Go.Proofs.YtnpgjdhigcjihaaGreatDoor
/- Blocks as a pool tells them. -/
namespace Go.Proofs.YtnpgjdhigcjihaaGreatDoor
open Go.RowKit

/-- A block: its id, how often it is held, its bytes. -/
structure Shv where
  id : Int
  refs : Int
  bytes : ByteArray
def shv0 : Shv := ⟨0, 0, ⟨#[]⟩⟩
def eSh : Enc Shv := ⟨3, fun p j => match j with | 0 => .int .i64 p.id | 1 => .int .i64 p.refs | _ => .string p.bytes⟩
theorem eSh_one (L : List Shv) : ∀ u ∈ eSh.flat L, u.oneCell' = true := by
  intro u hu
  obtain ⟨x, _, hx⟩ := List.mem_flatMap.1 hu
  simp only [Enc.cells, eSh, List.mem_map, List.mem_range] at hx
  obtain ⟨j, hj, rfl⟩ := hx
  rcases (show j = 0 ∨ j = 1 ∨ j = 2 by omega) with rfl | rfl | rfl <;> rfl
end Go.Proofs.YtnpgjdhigcjihaaGreatDoor
/- A row is as it was where its block is. -/
namespace Go.Proofs.YtnpgjdhigcjihaaGreatDoor
open Go.RowKit

theorem Own.same_block {α : Type} {E : Enc α} {e : TypeId} {w w' : World} {base : Nat} {v : Value} {xs : List α} (h : Own E e w base v xs) (hb : ∀ k, v.ownBlock = some k → w'.heap[k]? = w.heap[k]?) : Own E e w' base v xs := by
  obtain ⟨h1, h2⟩ := h
  refine ⟨h1, ?_⟩
  rcases h2 with h2 | ⟨g, cap, cur, rfl, hg, hh, r⟩
  · exact .inl h2
  · exact .inr ⟨g, cap, cur, rfl, hg, (hb g rfl).trans hh, r⟩
end Go.Proofs.YtnpgjdhigcjihaaGreatDoor
/- append(v, x) as one operation among others. -/
namespace Go.Proofs.YtnpgjdhigcjihaaGreatDoor
open Go.RowKit

/-- append(v, x) as one operation among others. -/
theorem wp_append_one {α : Type} {P : Program} {o : Oper} {a : Act} {K : Act → World → Prop} {Q : Exit → Act → World → Prop} (E : Enc α) (s y : Operand) (t : TypeId) (ho : o.op = .call { callee := .builtin .append, args := #[s, y], argTypes := #[t, t] })
    (base : Nat) (e : TypeId) (i : TypeInfo) (z : Value) (bytes : Nat) (ht : P.underlying t = some (.slice e)) (hi : P.info? e = some i) (hz : i.zero = some z)
    (hsize : i.size = E.sz) (hby : i.bytes = bytes) (hzs : z.cells.size = E.sz) (hsz : 0 < E.sz) (v : Value) (xs : List α) (hs : a.eval s = v) (w : World) (hown : Own E e w base v xs)
    (x : α) (cs : Array Value) (hcs : cs.toList = E.cells x) (hx : a.eval y = .slice (some ⟨w.heap.size, 0, none⟩) 1 1) (h1 : ∀ u ∈ cs.toList, u.oneCell' = true)
    (h63 : xs.length + 1 ≤ maxLen) (hbytes : (xs.length + 1) * bytes ≤ 140737488355328) (hbase : base ≤ w.heap.size)
    (h : ∀ v' w', Own E e w' base v' (xs ++ [x]) → (w.alloc (.cells cs e)).grownBy w' v.ownBlock → (v'.ownBlock = v.ownBlock ∨ v'.ownBlock = some (w.heap.size + 1)) → K (a.put o.dst v') w') :
    Oper.wp P o a (w.alloc (.cells cs e)) K Q := by
  obtain ⟨v', w', hr, h2, h3, h4, h5⟩ := run_append_own_at (P := P) (w.alloc (.cells cs e)) base t o.type e i z E.sz bytes ht hi hz hsize hby hzs hsz v xs.length (E.flat xs) (World.ownsRow.alloc hown _) ⟨w.heap.size, 0, none⟩ 1 1 (E.cells x) (by rw [Enc.cells_len, Nat.one_mul]) (fun j u hj => by
    rw [← hcs] at hj
    rw [Go.WideShapes.add_plain, World.cell?_alloc_at _ _ _ _ rfl, Nat.zero_add]
    simpa using hj) (by rw [← hcs]; exact h1) h63 hbytes (by simp; omega)
  unfold Oper.wp execOp
  simp only [ho, resolve, invoke, builtin, Sem.run_bind, Sem.run_pure, Result.andThen_ok, List.map_toArray, List.map_cons, List.map_nil, hs, hx, hr]
  refine h v' w' ?_ h3 (by simpa using h5)
  unfold Own
  rw [List.length_append, Enc.flat_app, Enc.flat_one]
  exact h2
end Go.Proofs.YtnpgjdhigcjihaaGreatDoor
/- Which blocks a call may change. -/
namespace Go.Proofs.YtnpgjdhigcjihaaGreatDoor
open Go.RowKit

/-- Of the blocks that were there only those of F are other ones. -/
structure Chg (F : Nat → Prop) (w w' : World) : Prop where
  os : w'.os = w.os
  tape : w'.tape = w.tape
  output : w'.output = w.output
  size : w.heap.size ≤ w'.heap.size
  block : ∀ k, k < w.heap.size → ¬ F k → w'.heap[k]? = w.heap[k]?
section
variable {F G : Nat → Prop} {a b c w w' : World}
theorem Chg.refl (F : Nat → Prop) (w : World) : Chg F w w := ⟨rfl, rfl, rfl, Nat.le_refl _, fun _ _ _ => rfl⟩
theorem Chg.trans (h : Chg F a b) (k : Chg F b c) : Chg F a c :=
  ⟨k.os.trans h.os, k.tape.trans h.tape, k.output.trans h.output, Nat.le_trans h.size k.size, fun i hi hf => (k.block i (Nat.lt_of_lt_of_le hi h.size) hf).trans (h.block i hi hf)⟩
theorem Chg.mono (h : Chg F a b) (hG : ∀ k, k < a.heap.size → F k → G k) : Chg G a b := ⟨h.os, h.tape, h.output, h.size, fun i hi hf => h.block i hi fun hF => hf (hG i hi hF)⟩
theorem Chg.of_below (h : Below a.heap.size a b) : Chg F a b := ⟨h.os, h.tape, h.output, h.size, fun i hi _ => h.block i hi⟩
theorem Chg.to_below (h : Chg F a b) {B : Nat} (hB : B ≤ a.heap.size) (hF : ∀ k, F k → B ≤ k) : Below B a b :=
  ⟨h.os, h.tape, h.output, h.size, fun i hi => h.block i (Nat.lt_of_lt_of_le hi hB) fun hf => Nat.lt_irrefl _ (Nat.lt_of_lt_of_le hi (hF i hf))⟩
theorem Chg.of_grown {row : Option Nat} (h : a.grownBy b row) (hs : a.heap.size ≤ b.heap.size) (hF : ∀ k, row = some k → F k) : Chg F a b :=
  ⟨h.os, h.tape, h.output, hs, fun i hi hf => h.block i hi fun e => hf (hF i e.symm)⟩
end
end Go.Proofs.YtnpgjdhigcjihaaGreatDoor
/- Lists of numbers: what the program says of their type. -/
namespace Go.Proofs.YtnpgjdhigcjihaaGreatDoor
open Go.RowKit

theorem Tryz.infoIn : (Tryz.prog.info? 3).map (fun i => (i.zero, i.size, i.bytes)) = some (some (.int .i64 0), 1, 8) := by kernel_rfl
theorem one_int (n : Int) : ∀ u ∈ (#[Value.int .i64 n] : Array Value).toList, u.oneCell' = true := by
  intro u hu
  simp at hu
  subst hu
  rfl

theorem flat_ints (L : List Int) : eI.flat L = L.map (Value.int .i64) := by
  unfold Enc.flat
  induction L with
  | nil => rfl
  | cons x L ih => rw [List.flatMap_cons, ih]; rfl
end Go.Proofs.YtnpgjdhigcjihaaGreatDoor
/- append(v, l...) as one operation among others. -/
namespace Go.Proofs.YtnpgjdhigcjihaaGreatDoor
open Go.RowKit

section
variable {α : Type} {P : Program}
theorem run_append_sl (E : Enc α) (t ty : TypeId) (base : Nat) (e : TypeId) (i : TypeInfo) (z : Value) (bytes : Nat) (ht : P.underlying t = some (.slice e)) (hi : P.info? e = some i) (hz : i.zero = some z)
    (hsize : i.size = E.sz) (hby : i.bytes = bytes) (hzs : z.cells.size = E.sz) (hsz : 0 < E.sz) (v : Value) (xs : List α) (w : World) (hown : Own E e w base v xs)
    (A : Option Addr) (n c : Nat) (ys : List α) (hr : Sl E w A n c ys) (h1 : ∀ u ∈ E.flat ys, u.oneCell' = true) (h63 : xs.length + n ≤ maxLen) (hbytes : (xs.length + n) * bytes ≤ 140737488355328) (hbase : base ≤ w.heap.size) :
    ∃ v' w', (Builtin.append_ #[t, t] ty #[v, .slice A n c]).run P w = .ok v' w' ∧ Own E e w' base v' (xs ++ ys) ∧ w.grownBy w' v.ownBlock ∧ (v'.ownBlock = v.ownBlock ∨ v'.ownBlock = some w.heap.size) := by
  have hn := hr.1
  rcases Nat.eq_zero_or_pos n with h0 | h0
  · subst h0
    have hys : ys = [] := List.eq_nil_of_length_eq_zero hn.symm
    subst hys
    rcases A with _ | ad
    · have hrun : (Builtin.append_ #[t, t] ty #[v, .slice none 0 c]).run P w = .ok v w := by
        rcases hown.2 with ⟨rfl, _⟩ | ⟨g, cap, cur, rfl, _, _, hnc, _⟩
        · simp [Builtin.append_, run_underlying ht, sizeOf, typeInfo, hi, Builtin.lenOf, Builtin.firstCells]
        · simp [Builtin.append_, run_underlying ht, sizeOf, typeInfo, hi, Builtin.lenOf, Builtin.firstCells, hnc, storeCells]
      exact ⟨v, w, hrun, by simpa using hown, World.grownBy.refl w _, .inl rfl⟩
    · obtain ⟨v', w', hr, h2, h3, h4, h5⟩ := run_append_own_at (P := P) w base t ty e i z E.sz bytes ht hi hz hsize hby hzs hsz v xs.length (E.flat xs) hown ad 0 c [] (by simp) (fun j u hj => by simp at hj) (by simp) h63 hbytes hbase
      exact ⟨v', w', hr, by unfold Own; simpa using h2, h3, h5⟩
  · obtain ⟨b, off, rfl, hb, hrd⟩ := hr.2.2.2 h0
    obtain ⟨v', w', hr, h2, h3, h4, h5⟩ := run_append_own_at (P := P) w base t ty e i z E.sz bytes ht hi hz hsize hby hzs hsz v xs.length (E.flat xs) hown ⟨b, off, none⟩ n c (E.flat ys) (by rw [Enc.flat_len, hn]) (fun j u hj => by
      have hjl : j < ys.length * E.sz := by rw [← Enc.flat_len]; exact (List.getElem?_eq_some_iff.1 hj).1
      have hd : j = j / E.sz * E.sz + j % E.sz := (Nat.div_add_mod' j E.sz).symm
      have hi' : j / E.sz < ys.length := (Nat.div_lt_iff_lt_mul hsz).2 hjl
      have hm' : j % E.sz < E.sz := Nat.mod_lt _ hsz
      rw [Go.WideShapes.add_plain]
      rw [hd, Enc.flat_at hi' hm'] at hj
      have := hrd _ hi' _ hm'
      rw [Nat.add_assoc, ← hd] at this
      rw [this, ← hj]) h1 h63 hbytes hbase
    refine ⟨v', w', hr, ?_, h3, h5⟩
    unfold Own
    rw [List.length_append, Enc.flat_app, ← hn]
    exact h2
theorem wp_append_sl {o : Oper} {a : Act} {K : Act → World → Prop} {Q : Exit → Act → World → Prop} (E : Enc α) (s y : Operand) (t : TypeId) (ho : o.op = .call { callee := .builtin .append, args := #[s, y], argTypes := #[t, t] })
    (base : Nat) (e : TypeId) (i : TypeInfo) (z : Value) (bytes : Nat) (ht : P.underlying t = some (.slice e)) (hi : P.info? e = some i) (hz : i.zero = some z)
    (hsize : i.size = E.sz) (hby : i.bytes = bytes) (hzs : z.cells.size = E.sz) (hsz : 0 < E.sz) (v : Value) (xs : List α) (hs : a.eval s = v) (w : World) (hown : Own E e w base v xs)
    (A : Option Addr) (n c : Nat) (ys : List α) (hy : a.eval y = .slice A n c) (hr : Sl E w A n c ys) (h1 : ∀ u ∈ E.flat ys, u.oneCell' = true) (h63 : xs.length + n ≤ maxLen) (hbytes : (xs.length + n) * bytes ≤ 140737488355328) (hbase : base ≤ w.heap.size)
    (h : ∀ v' w', Own E e w' base v' (xs ++ ys) → w.grownBy w' v.ownBlock → (v'.ownBlock = v.ownBlock ∨ v'.ownBlock = some w.heap.size) → K (a.put o.dst v') w') : Oper.wp P o a w K Q := by
  obtain ⟨v', w', hrun, h2, h3, h4⟩ := run_append_sl E t o.type base e i z bytes ht hi hz hsize hby hzs hsz v xs w hown A n c ys hr h1 h63 hbytes hbase
  unfold Oper.wp execOp
  simp only [ho, resolve, invoke, builtin, Sem.run_bind, Sem.run_pure, Result.andThen_ok, List.map_toArray, List.map_cons, List.map_nil, hs, hy, hrun]
  exact h v' w' h2 h3 h4
end
end Go.Proofs.YtnpgjdhigcjihaaGreatDoor
/- Walk of emulsionbook.SameInts: two lists of numbers alike. -/
namespace Go.Proofs.YtnpgjdhigcjihaaGreatDoor
open Go.RowKit

set_option maxHeartbeats 1000000 in
theorem sameInts_any (A B : Option Addr) (n c m d : Nat) (L M : List Int) (w : World) (hs : Sl eI w A n c L) (ht : Sl eI w B m d M) :
    Calls Tryz.prog 86 #[.slice A n c, .slice B m d] w fun e w' => e = .returned (.bool (decide (L = M))) ∧ ∃ q, w' = w.drewN q := by
  obtain rfl := hs.1
  obtain rfl := ht.1
  have h1 := hs.2.1
  have h2 := hs.2.2.1
  have h3 := ht.2.1
  have h4 := ht.2.2.1
  by_cases hl : L.length = M.length
  · have q1 : ((L.length : Int) == (M.length : Int)) = true := beq_iff_eq.2 (by omega)
    have Hl := hide hl
    clear hl
    go_enter Tryz.func86, Tryz.ntmps86
    go_wp2
    go_loopw [5] (fun i wr => ∃ k : Nat, k ≤ L.length ∧ i = .int .i64 k ∧ (∀ j, j < k → L[j]? = M[j]?) ∧ ∃ q, wr = w.drewN q) (fun i _ => L.length - (intOf i).toNat)
    case atStart => exact ⟨0, Nat.zero_le _, rfl, fun j hj => by omega, 0, rfl⟩
    case round =>
      obtain ⟨k, hk, rfl, heq, q, rfl⟩ := hrel
      have Heq := hide heq
      clear heq
      by_cases hlt : k < L.length
      · have hlm : k < M.length := by have := unhide Hl; omega
        obtain ⟨b, off, hA', hb, hrd⟩ := hs.2.2.2 (by omega)
        obtain ⟨b2, off2, hB', hb2, hrd2⟩ := ht.2.2.2 (by omega)
        subst hA'
        subst hB'
        obtain ⟨y, hy⟩ : ∃ y, y = L[k] := ⟨_, rfl⟩
        obtain ⟨z, hz⟩ : ∃ z, z = M[k] := ⟨_, rfl⟩
        have x0 : w.cell? ⟨b, off + k, none⟩ = some (.int .i64 y) := by rw [hy]; simpa [eI] using hrd k hlt 0 (by decide)
        have x1 : w.cell? ⟨b2, off2 + k, none⟩ = some (.int .i64 z) := by rw [hz]; simpa [eI] using hrd2 k hlm 0 (by decide)
        have Hy := hide hy
        have Hz := hide hz
        clear hy hz
        by_cases he : y = z
        · have e1 : (y == z) = true := beq_iff_eq.2 he
          have He := hide he
          clear he
          go_wp2
          go_quiet (fail)
          go_wp2
          go_roundw
          case rel =>
            refine ⟨k + 1, by omega, by go_num, fun j hj => ?_, _, rfl⟩
            rcases Nat.lt_or_ge j k with h | h
            · exact unhide Heq j h
            · obtain rfl : j = k := by omega
              rw [List.getElem?_eq_getElem hlt, List.getElem?_eq_getElem hlm, ← unhide Hy, ← unhide Hz, unhide He]
          case measure => simp [intOf]; omega
        · have e1 : (y == z) = false := beq_eq_false_iff_ne.2 he
          have He := hide he
          clear he
          go_wp2
          go_quiet (fail)
          go_wp2
          go_ret
          refine ⟨ret_bool (Eq.symm (decide_eq_false fun e => ?_)), _, World.drewN_drewN _ _ _⟩
          apply unhide He
          rw [unhide Hy, unhide Hz]
          subst e
          rfl
      · have hLM : L = M := by
          apply List.ext_getElem?
          intro j
          rcases Nat.lt_or_ge j L.length with h | h
          · exact unhide Heq j (by omega)
          · rw [List.getElem?_eq_none h, List.getElem?_eq_none (by have := unhide Hl; omega)]
        have HLM := hide hLM
        clear hLM
        go_wp2
        go_ret
        exact ⟨ret_bool (Eq.symm (decide_eq_true (unhide HLM))), q, rfl⟩
  · have q1 : ((L.length : Int) == (M.length : Int)) = false := beq_eq_false_iff_ne.2 (by omega)
    have hne : L ≠ M := fun e => hl (by rw [e])
    rw [decide_eq_false hne]
    have H := hide hl
    clear hl hne
    go_enter Tryz.func86, Tryz.ntmps86
    go_wp2
    go_ret
    exact ⟨rfl, 0, rfl⟩
end Go.Proofs.YtnpgjdhigcjihaaGreatDoor
/- Extents, as they lie. -/
namespace Go.Proofs.YtnpgjdhigcjihaaGreatDoor
open Go.RowKit

structure Ext where
  from_ : Int
  n : Int
  id : Int
def eE : Enc Ext := ⟨3, fun p j => match j with | 0 => .int .i64 p.from_ | 1 => .int .i64 p.n | _ => .int .i64 p.id⟩
theorem eE_one (L : List Ext) : ∀ u ∈ eE.flat L, u.oneCell' = true := by
  intro u hu
  obtain ⟨x, _, hx⟩ := List.mem_flatMap.1 hu
  simp only [Enc.cells, eE, List.mem_map, List.mem_range] at hx
  obtain ⟨j, hj, rfl⟩ := hx
  rcases (show j = 0 ∨ j = 1 ∨ j = 2 by omega) with rfl | rfl | rfl <;> rfl
theorem Tryz.infoE : ((Tryz.prog.info? 146).map fun i => (i.zero, i.size, i.bytes)) = some (some (.agg #[.int .i64 0, .int .i64 0, .int .i64 0]), 3, 24) := by kernel_rfl
end Go.Proofs.YtnpgjdhigcjihaaGreatDoor
/- Two lists of extents that are alike. -/
namespace Go.Proofs.YtnpgjdhigcjihaaGreatDoor
open Go.RowKit

set_option maxHeartbeats 1000000 in
set_option maxRecDepth 100000 in
theorem sameExtents_yes (A1 : Option Addr) (c1 : Nat) (A2 : Option Addr) (c2 n : Nat) (L : List Ext) (w : World) (h1 : Sl eE w A1 n c1 L) (h2 : Sl eE w A2 n c2 L) :
    Calls Tryz.prog 88 #[.slice A1 n c1, .slice A2 n c2] w fun e w' => e = .returned (.bool true) ∧ ∃ q, w' = w.drewN q := by
  have hn := h1.1
  have b1 := h1.2.1
  have b2 := h1.2.2.1
  have b3 := h2.2.1
  have b4 := h2.2.2.1
  have R1 := hide h1.2.2.2
  have R2 := hide h2.2.2.2
  have hne : ¬ (n : Int) ≠ n := by simp
  have Hn := hide hn
  clear h1 h2 hn
  go_enter Tryz.func88, Tryz.ntmps88
  go_wp2_with fail
  go_loopw [5] (fun i wr => ∃ (k q : Nat), k ≤ n ∧ i = .int .i64 k ∧ wr = w.drewN q) (fun i _ => n - (intOf i).toNat)
  case atStart => exact ⟨0, 0, Nat.zero_le _, rfl, rfl⟩
  case round =>
    obtain ⟨k, q, hk, rfl, rfl⟩ := hrel
    by_cases hlt : k < n
    · have hkL : k < L.length := by have := unhide Hn; omega
      obtain ⟨g1, o1, e1, l1, r1⟩ := unhide R1 (by omega)
      obtain ⟨g2, o2, e2, l2, r2⟩ := unhide R2 (by omega)
      subst e1 e2
      have x0 : w.cell? ⟨g1, o1 + k * 3, none⟩ = some (.int .i64 L[k].from_) := r1 k hkL 0 (by decide)
      have x1 : w.cell? ⟨g1, o1 + k * 3 + 1, none⟩ = some (.int .i64 L[k].n) := r1 k hkL 1 (by decide)
      have x2 : w.cell? ⟨g1, o1 + k * 3 + 2, none⟩ = some (.int .i64 L[k].id) := r1 k hkL 2 (by decide)
      have z0 : w.cell? ⟨g2, o2 + k * 3, none⟩ = some (.int .i64 L[k].from_) := r2 k hkL 0 (by decide)
      have z1 : w.cell? ⟨g2, o2 + k * 3 + 1, none⟩ = some (.int .i64 L[k].n) := r2 k hkL 1 (by decide)
      have z2 : w.cell? ⟨g2, o2 + k * 3 + 2, none⟩ = some (.int .i64 L[k].id) := r2 k hkL 2 (by decide)
      obtain ⟨W, hW⟩ : ∃ W, W = w.drewN q := ⟨_, rfl⟩
      have hc : ∀ a, W.cell? a = w.cell? a := by rw [hW]; intro a; rfl
      obtain ⟨a, ha⟩ : ∃ a, a = L[k].from_ := ⟨_, rfl⟩
      obtain ⟨b, hb⟩ : ∃ a, a = L[k].n := ⟨_, rfl⟩
      obtain ⟨d, hd⟩ : ∃ a, a = L[k].id := ⟨_, rfl⟩
      rw [← hc, ← ha] at x0 z0
      rw [← hc, ← hb] at x1 z1
      rw [← hc, ← hd] at x2 z2
      rw [← hW]
      have HW := hide hW
      clear r1 r2 hW hc ha hb hd
      go_wp2
      go_quiet (fail)
      go_wp2
      go_roundw
      case rel => exact ⟨k + 1, q + nq, by omega, by go_num, by rw [unhide HW, World.drewN_drewN]⟩
      case measure => simp [intOf]; omega
    · go_wp2
      go_ret
      exact ⟨rfl, q, rfl⟩
end Go.Proofs.YtnpgjdhigcjihaaGreatDoor
/- Two lists of blocks that are alike. -/
namespace Go.Proofs.YtnpgjdhigcjihaaGreatDoor
open Go.RowKit

set_option maxHeartbeats 1000000 in
set_option maxRecDepth 100000 in
theorem sameShelves_yes (A1 : Option Addr) (c1 : Nat) (A2 : Option Addr) (c2 n : Nat) (L : List Shv) (w : World) (h1 : Sl eSh w A1 n c1 L) (h2 : Sl eSh w A2 n c2 L) :
    Calls Tryz.prog 17 #[.slice A1 n c1, .slice A2 n c2] w fun e w' => e = .returned (.bool true) ∧ ∃ q, w' = w.drewN q := by
  have hn := h1.1
  have b1 := h1.2.1
  have b2 := h1.2.2.1
  have b3 := h2.2.1
  have b4 := h2.2.2.1
  have R1 := hide h1.2.2.2
  have R2 := hide h2.2.2.2
  have hne : ¬ (n : Int) ≠ n := by simp
  have Hn := hide hn
  clear h1 h2 hn
  go_enter Tryz.func17, Tryz.ntmps17
  go_wp2_with fail
  go_loopw [5] (fun i wr => ∃ (k q : Nat), k ≤ n ∧ i = .int .i64 k ∧ wr = w.drewN q) (fun i _ => n - (intOf i).toNat)
  case atStart => exact ⟨0, 0, Nat.zero_le _, rfl, rfl⟩
  case round =>
    obtain ⟨k, q, hk, rfl, rfl⟩ := hrel
    by_cases hlt : k < n
    · have hkL : k < L.length := by have := unhide Hn; omega
      obtain ⟨g1, o1, e1, l1, r1⟩ := unhide R1 (by omega)
      obtain ⟨g2, o2, e2, l2, r2⟩ := unhide R2 (by omega)
      subst e1 e2
      have x0 : w.cell? ⟨g1, o1 + k * 3, none⟩ = some (.int .i64 L[k].id) := r1 k hkL 0 (by decide)
      have x1 : w.cell? ⟨g1, o1 + k * 3 + 1, none⟩ = some (.int .i64 L[k].refs) := r1 k hkL 1 (by decide)
      have x2 : w.cell? ⟨g1, o1 + k * 3 + 2, none⟩ = some (.string L[k].bytes) := r1 k hkL 2 (by decide)
      have z0 : w.cell? ⟨g2, o2 + k * 3, none⟩ = some (.int .i64 L[k].id) := r2 k hkL 0 (by decide)
      have z1 : w.cell? ⟨g2, o2 + k * 3 + 1, none⟩ = some (.int .i64 L[k].refs) := r2 k hkL 1 (by decide)
      have z2 : w.cell? ⟨g2, o2 + k * 3 + 2, none⟩ = some (.string L[k].bytes) := r2 k hkL 2 (by decide)
      obtain ⟨W, hW⟩ : ∃ W, W = w.drewN q := ⟨_, rfl⟩
      have hc : ∀ a, W.cell? a = w.cell? a := by rw [hW]; intro a; rfl
      obtain ⟨a, ha⟩ : ∃ a, a = L[k].id := ⟨_, rfl⟩
      obtain ⟨b, hb⟩ : ∃ a, a = L[k].refs := ⟨_, rfl⟩
      obtain ⟨d, hd⟩ : ∃ a, a = L[k].bytes := ⟨_, rfl⟩
      have qd : (d.toList == d.toList) = true := beq_self_eq_true _
      rw [← hc, ← ha] at x0 z0
      rw [← hc, ← hb] at x1 z1
      rw [← hc, ← hd] at x2 z2
      rw [← hW]
      have HW := hide hW
      clear r1 r2 hW hc ha hb hd
      go_wp2
      go_quiet (fail)
      go_wp2
      go_roundw
      case rel => exact ⟨k + 1, q + nq, by omega, by go_num, by rw [unhide HW, World.drewN_drewN]⟩
      case measure => simp [intOf]; omega
    · go_wp2
      go_ret
      exact ⟨rfl, q, rfl⟩
end Go.Proofs.YtnpgjdhigcjihaaGreatDoor
