/- Joined texts: Own, Chg, In, Ext, ExtIds. -/
import Derived.Test.YtjjfdkdneibjbaaGreatDoorJa01
import Derived.Deep.AppendLies
/- Rows of the call's own, as lists of elements: made, appended to, written into, read. -/
namespace Go.Proofs.YtjjfdkdneibjbaaGreatDoor
open Go.RowKit

section
variable {α : Type}
def Enc.cells (E : Enc α) (x : α) : List Value := (List.range E.sz).map (E.cell x)
def Enc.flat (E : Enc α) (xs : List α) : List Value := xs.flatMap E.cells
variable {E : Enc α}
theorem Enc.cells_len (x : α) : (E.cells x).length = E.sz := by simp [Enc.cells]
theorem Enc.flat_len (xs : List α) : (E.flat xs).length = xs.length * E.sz := by
  unfold Enc.flat
  induction xs with
  | nil => simp
  | cons x xs ih => rw [List.flatMap_cons, List.length_append, ih, Enc.cells_len, List.length_cons, Nat.add_mul]; omega
theorem Enc.flat_app (xs ys : List α) : E.flat (xs ++ ys) = E.flat xs ++ E.flat ys := by simp [Enc.flat]
theorem Enc.flat_one (x : α) : E.flat [x] = E.cells x := by simp [Enc.flat]
theorem Enc.flat_at {xs : List α} {i j : Nat} (hi : i < xs.length) (hj : j < E.sz) : (E.flat xs)[i * E.sz + j]? = some (E.cell xs[i] j) := by
  induction xs generalizing i with
  | nil => simp at hi
  | cons x xs ih =>
    unfold Enc.flat
    rw [List.flatMap_cons]
    cases i with
    | zero =>
      rw [List.getElem?_append_left (by rw [Enc.cells_len]; omega)]
      simp [Enc.cells, hj]
    | succ i =>
      rw [List.getElem?_append_right (by rw [Enc.cells_len, Nat.add_mul]; omega), Enc.cells_len, show (i + 1) * E.sz + j - E.sz = i * E.sz + j by rw [Nat.add_mul]; omega]
      exact ih (by simpa using hi)
theorem Enc.flat_one' {xs : List α} (h : ∀ u ∈ E.flat xs, u.oneCell' = true) (x : α) (hx : x ∈ xs) : ∀ u ∈ E.cells x, u.oneCell' = true :=
  fun u hu => h u (List.mem_flatMap.2 ⟨x, hx, hu⟩)

/-- v is a row of the call's own (from block base on), of the elements xs. -/
def Own (E : Enc α) (e : TypeId) (w : World) (base : Nat) (v : Value) (xs : List α) : Prop := w.ownsRow base e E.sz v xs.length (E.flat xs)

variable {e : TypeId} {w w' : World} {base : Nat} {v : Value} {xs : List α}
theorem Own.nil (E : Enc α) (e : TypeId) (w : World) (base : Nat) : Own E e w base (.slice none 0 0) [] := World.ownsRow_nil _ _ _ _
theorem Own.lower (h : Own E e w base v xs) {base' : Nat} (hb : base' ≤ base) : Own E e w base' v xs := own_lower h hb
theorem Own.below (h : Own E e w base v xs) (hb : Below w.heap.size w w') : Own E e w' base v xs := own_below h hb
theorem Own.alloc (h : Own E e w base v xs) (o : Obj) : Own E e (w.alloc o) base v xs := World.ownsRow.alloc h o
theorem Own.drewN (h : Own E e w base v xs) (n : Nat) : Own E e (w.drewN n) base v xs := h
theorem Own.grown (h : Own E e w base v xs) {row : Option Nat} (hg : w.grownBy w' row) (hne : v.ownBlock = none ∨ v.ownBlock ≠ row) : Own E e w' base v xs := World.ownsRow.kept h hg hne
theorem Own.lt (h : Own E e w base v xs) : ∀ k, v.ownBlock = some k → base ≤ k ∧ k < w.heap.size := World.ownsRow.lt h
/-- The shape of the value. -/
theorem Own.shape (h : Own E e w base v xs) : (v = .slice none 0 0 ∧ xs = []) ∨ ∃ g cap, v = .slice (some ⟨g, 0, none⟩) xs.length cap ∧ base ≤ g ∧ g < w.heap.size ∧ xs.length ≤ cap ∧ cap ≤ maxLen := by
  rcases h.2 with ⟨h1, h2⟩ | ⟨g, cap, cur, h1, hb, hg, hnc, hm, _⟩
  · exact .inl ⟨h1, List.eq_nil_of_length_eq_zero h2⟩
  · exact .inr ⟨g, cap, h1, hb, (Array.getElem?_eq_some_iff.1 hg).1, hnc, hm⟩
theorem Own.sl (h : Own E e w base v xs) : ∃ A c, v = .slice A xs.length c ∧ Sl E w A xs.length c xs ∧ (∀ b off, A = some ⟨b, off, none⟩ → base ≤ b) := by
  rcases h.2 with ⟨rfl, h2⟩ | ⟨g, cap, cur, rfl, hb, hg, hnc, hm, hs, ht⟩
  · exact ⟨none, 0, by rw [h2], ⟨rfl, by omega, by omega, fun h => by omega⟩, fun _ _ h => by cases h⟩
  · refine ⟨_, _, rfl, ⟨rfl, hnc, hm, fun _ => ⟨g, 0, rfl, (Array.getElem?_eq_some_iff.1 hg).1, fun i hi j hj => ?_⟩⟩, fun b off e => by injection e with e; injection e with e; omega⟩
    have hlt : i * E.sz + j < xs.length * E.sz := by
      have : (i + 1) * E.sz ≤ xs.length * E.sz := Nat.mul_le_mul_right _ hi
      rw [Nat.add_mul] at this; omega
    have := World.ownsRow.cellAt h (0 + i * E.sz + j) (by omega)
    rw [this, Nat.zero_add, Enc.flat_at hi hj]
theorem Own.cell {b o n c : Nat} (h : Own E e w base (.slice (some ⟨b, o, none⟩) n c) xs) {i : Nat} (hi : i < xs.length) {j : Nat} (hj : j < E.sz) : w.cell? ⟨b, o + i * E.sz + j, none⟩ = some (E.cell xs[i] j) := by
  obtain ⟨A, c', hv, hs, _⟩ := h.sl
  injection hv with hv _ _
  obtain ⟨b', o', hb, _, hr⟩ := hs.2.2.2 (by omega)
  rw [hb] at hv
  injection hv with hv
  injection hv with h1 h2
  subst h1; subst h2
  exact hr i hi j hj
/-- A literal list lies in a new block. -/
theorem Own.lit (w : World) (cs : Array Value) (n : Nat) (hn : xs.length = n) (hcs : cs.toList = E.flat xs) (hm : n ≤ maxLen) (hb : base ≤ w.heap.size) : Own E e (w.alloc (.cells cs e)) base (.slice (some ⟨w.heap.size, 0, none⟩) n n) xs := by
  subst hn
  have hl : cs.size = xs.length * E.sz := by rw [← Array.length_toList, hcs, Enc.flat_len]
  have := World.ownsRow_lit (base := base) (e := e) (size := E.sz) w cs xs.length hb hm hl
  rw [hcs] at this
  exact this

variable {P : Program} {ops : Array Oper} {rest : List Oper} {o : Oper} {a : Act} {Q : Exit → Act → World → Prop}
/-- append(v, x): one element behind a row of the call's own. -/
theorem wpList_append_one (E : Enc α) (hgd : o.guard = none) (s y : Operand) (t : TypeId) (ho : o.op = .call { callee := .builtin .append, args := #[s, y], argTypes := #[t, t] })
    (base : Nat) (e : TypeId) (i : TypeInfo) (z : Value) (bytes : Nat) (ht : P.underlying t = some (.slice e)) (hi : P.info? e = some i) (hz : i.zero = some z)
    (hsize : i.size = E.sz) (hby : i.bytes = bytes) (hzs : z.cells.size = E.sz) (hsz : 0 < E.sz) (v : Value) (xs : List α) (hs : a.eval s = v) (w : World) (hown : Own E e w base v xs)
    (x : α) (cs : Array Value) (hcs : cs.toList = E.cells x) (hx : a.eval y = .slice (some ⟨w.heap.size, 0, none⟩) 1 1) (h1 : ∀ u ∈ cs.toList, u.oneCell' = true)
    (h63 : xs.length + 1 ≤ maxLen) (hbytes : (xs.length + 1) * bytes ≤ 140737488355328) (hbase : base ≤ w.heap.size)
    (h : ∀ v' w', Own E e w' base v' (xs ++ [x]) → (w.alloc (.cells cs e)).grownBy w' v.ownBlock → (v'.ownBlock = v.ownBlock ∨ v'.ownBlock = some (w.heap.size + 1)) → wpList P ops Q rest (a.put o.dst v') w') :
    wpList P ops Q (o :: rest) a (w.alloc (.cells cs e)) := by
  refine wpList_append_own_at _ hgd s y t ho base e i z E.sz bytes ht hi hz hsize hby hzs hsz v xs.length (E.flat xs) hs (World.ownsRow.alloc hown _) ⟨w.heap.size, 0, none⟩ 1 1 (E.cells x) hx (by rw [Enc.cells_len, Nat.one_mul]) (fun j u hj => ?_) (by rw [← hcs]; exact h1) h63 hbytes (by simp; omega) fun v' w' h1 h2 _ h4 => h v' w' ?_ h2 (by simpa using h4)
  · rw [← hcs] at hj
    rw [Go.WideShapes.add_plain, World.cell?_alloc_at _ _ _ _ rfl, Nat.zero_add]
    simpa using hj
  · unfold Own
    rw [List.length_append, Enc.flat_app, Enc.flat_one]
    exact h1
/-- append(v, l...): a list that is read behind a row of the call's own. -/
theorem wpList_append_sl (E : Enc α) (hgd : o.guard = none) (s y : Operand) (t : TypeId) (ho : o.op = .call { callee := .builtin .append, args := #[s, y], argTypes := #[t, t] })
    (base : Nat) (e : TypeId) (i : TypeInfo) (z : Value) (bytes : Nat) (ht : P.underlying t = some (.slice e)) (hi : P.info? e = some i) (hz : i.zero = some z)
    (hsize : i.size = E.sz) (hby : i.bytes = bytes) (hzs : z.cells.size = E.sz) (hsz : 0 < E.sz) (v : Value) (xs : List α) (hs : a.eval s = v) (w : World) (hown : Own E e w base v xs)
    (A : Option Addr) (n c : Nat) (ys : List α) (hy : a.eval y = .slice A n c) (hr : Sl E w A n c ys) (h1 : ∀ u ∈ E.flat ys, u.oneCell' = true)
    (h63 : xs.length + n ≤ maxLen) (hbytes : (xs.length + n) * bytes ≤ 140737488355328) (hbase : base ≤ w.heap.size)
    (h : ∀ v' w', Own E e w' base v' (xs ++ ys) → w.grownBy w' v.ownBlock → (v'.ownBlock = v.ownBlock ∨ v'.ownBlock = some w.heap.size) → wpList P ops Q rest (a.put o.dst v') w') :
    wpList P ops Q (o :: rest) a w := by
  have hn := hr.1
  rcases Nat.eq_zero_or_pos n with h0 | h0
  · subst h0
    have hys : ys = [] := List.eq_nil_of_length_eq_zero hn.symm
    subst hys
    rcases A with _ | ad
    · have hrun : (Builtin.append_ #[t, t] o.type #[v, .slice none 0 c]).run P w = .ok v w := by
        rcases hown.2 with ⟨rfl, _⟩ | ⟨g, cap, cur, rfl, _, _, hnc, _⟩
        · simp [Builtin.append_, run_underlying ht, sizeOf, typeInfo, hi, Builtin.lenOf, Builtin.firstCells]
        · simp [Builtin.append_, run_underlying ht, sizeOf, typeInfo, hi, Builtin.lenOf, Builtin.firstCells, hnc, storeCells]
      refine wpList_plain hgd fun K hK => ?_
      unfold Oper.wp execOp
      simp only [ho, resolve, invoke, builtin, Sem.run_bind, Sem.run_pure, Result.andThen_ok, List.map_toArray, List.map_cons, List.map_nil, hs, hy, hrun]
      exact hK _ _ (h v w (by simpa using hown) (World.grownBy.refl w _) (.inl rfl))
    · exact wpList_append_own_at _ hgd s y t ho base e i z E.sz bytes ht hi hz hsize hby hzs hsz v xs.length (E.flat xs) hs hown ad 0 c [] hy (by simp) (fun j u hj => by simp at hj) (by simp) h63 hbytes hbase fun v' w' h1 h2 _ h4 => h v' w' (by unfold Own; simpa using h1) h2 h4
  · obtain ⟨b, off, rfl, hb, hrd⟩ := hr.2.2.2 h0
    refine wpList_append_own_at _ hgd s y t ho base e i z E.sz bytes ht hi hz hsize hby hzs hsz v xs.length (E.flat xs) hs hown ⟨b, off, none⟩ n c (E.flat ys) hy (by rw [Enc.flat_len, hn]) (fun j u hj => ?_) h1 h63 hbytes hbase fun v' w' h1 h2 _ h4 => h v' w' ?_ h2 h4
    · have hjl : j < ys.length * E.sz := by rw [← Enc.flat_len]; exact (List.getElem?_eq_some_iff.1 hj).1
      have hd : j = j / E.sz * E.sz + j % E.sz := (Nat.div_add_mod' j E.sz).symm
      have hi' : j / E.sz < ys.length := (Nat.div_lt_iff_lt_mul hsz).2 hjl
      have hm' : j % E.sz < E.sz := Nat.mod_lt _ hsz
      rw [Go.WideShapes.add_plain]
      rw [hd, Enc.flat_at hi' hm'] at hj
      have := hrd _ hi' _ hm'
      rw [Nat.add_assoc, ← hd] at this
      rw [this, ← hj]
    · unfold Own
      rw [List.length_append, Enc.flat_app, ← hn]
      exact h1
/-- One cell of an element of a row is stored. -/
theorem Own.set {g n c : Nat} (h : Own E e w base (.slice (some ⟨g, 0, none⟩) n c) xs) {i : Nat} (hi : i < xs.length) {j : Nat} (hj : j < E.sz) (u : Value) (x : α) (hx : ∀ k, k < E.sz → E.cell x k = if k = j then u else E.cell xs[i] k) :
    Own E e (w.setCell ⟨g, i * E.sz + j, none⟩ u) base (.slice (some ⟨g, 0, none⟩) n c) (xs.set i x) := by
  have hn : n = xs.length := by
    obtain ⟨_, _, hv, _⟩ := h.sl
    injection hv
  subst hn
  have hlt : i * E.sz + j < xs.length * E.sz := by
    have : (i + 1) * E.sz ≤ xs.length * E.sz := Nat.mul_le_mul_right _ hi
    rw [Nat.add_mul] at this; omega
  have hst := World.ownsRow.stored h (i * E.sz + j) u
  unfold Own
  rw [List.length_set]
  have : E.flat (xs.set i x) = (E.flat xs).set (i * E.sz + j) u := by
    apply List.ext_getElem?
    intro k
    have hsz : 0 < E.sz := by omega
    by_cases hk : k < xs.length * E.sz
    · have hd : k = k / E.sz * E.sz + k % E.sz := (Nat.div_add_mod' k E.sz).symm
      have hi' : k / E.sz < xs.length := (Nat.div_lt_iff_lt_mul hsz).2 hk
      have hm' : k % E.sz < E.sz := Nat.mod_lt _ hsz
      have e1 := Enc.flat_at (E := E) (xs := xs.set i x) (i := k / E.sz) (j := k % E.sz) (by simpa using hi') hm'
      have e2 := Enc.flat_at (E := E) (xs := xs) (i := k / E.sz) (j := k % E.sz) hi' hm'
      rw [← hd] at e1 e2
      rw [e1, List.getElem?_set]
      by_cases hki : k / E.sz = i
      · subst hki
        rw [List.getElem_set_self, hx _ hm']
        by_cases hkj : k % E.sz = j
        · have : k / E.sz * E.sz + j = k := by rw [← hkj]; exact hd.symm
          rw [if_pos this, if_pos hkj, if_pos (by rw [Enc.flat_len]; omega)]
        · rw [if_neg hkj, if_neg (by intro h; apply hkj; rw [← h, Nat.mul_comm, Nat.mul_add_mod, Nat.mod_eq_of_lt hj]), e2]
      · rw [List.getElem_set_ne (fun h => hki h.symm), if_neg, e2]
        intro h
        apply hki
        rw [← h, Nat.mul_comm, Nat.mul_add_div hsz, Nat.div_eq_of_lt hj, Nat.add_zero]
    · rw [List.getElem?_eq_none (by rw [Enc.flat_len, List.length_set]; omega), List.getElem?_eq_none (by rw [List.length_set, Enc.flat_len]; omega)]
  rw [this]
  exact hst.1
theorem Own.frozen {g n c : Nat} (h : Own E e w base (.slice (some ⟨g, 0, none⟩) n c) xs) (j : Nat) : w.frozen? ⟨g, j, none⟩ = false := World.ownsRow.frozenAt (n := xs.length) (by
  have hn : n = xs.length := by
    obtain ⟨_, _, hv, _⟩ := h.sl
    injection hv
  subst hn
  exact h) j
end
end Go.Proofs.YtjjfdkdneibjbaaGreatDoor
/- Which blocks a call may change. -/
namespace Go.Proofs.YtjjfdkdneibjbaaGreatDoor
open Go.RowKit

/-- Of the blocks that were there only those of F are other ones. -/
structure Chg (F : Nat → Prop) (w w' : World) : Prop where
  os : w'.os = w.os
  tape : w'.tape = w.tape
  output : w'.output = w.output
  size : w.heap.size ≤ w'.heap.size
  block : ∀ k, k < w.heap.size → ¬ F k → w'.heap[k]? = w.heap[k]?
section
variable {F G : Nat → Prop} {a b c w w' : World}
theorem Chg.refl (F : Nat → Prop) (w : World) : Chg F w w := ⟨rfl, rfl, rfl, Nat.le_refl _, fun _ _ _ => rfl⟩
theorem Chg.trans (h : Chg F a b) (k : Chg F b c) : Chg F a c :=
  ⟨k.os.trans h.os, k.tape.trans h.tape, k.output.trans h.output, Nat.le_trans h.size k.size, fun i hi hf => (k.block i (Nat.lt_of_lt_of_le hi h.size) hf).trans (h.block i hi hf)⟩
theorem Chg.mono (h : Chg F a b) (hG : ∀ k, k < a.heap.size → F k → G k) : Chg G a b := ⟨h.os, h.tape, h.output, h.size, fun i hi hf => h.block i hi fun hF => hf (hG i hi hF)⟩
theorem Chg.of_below (h : Below a.heap.size a b) : Chg F a b := ⟨h.os, h.tape, h.output, h.size, fun i hi _ => h.block i hi⟩
theorem Chg.to_below (h : Chg F a b) {B : Nat} (hB : B ≤ a.heap.size) (hF : ∀ k, F k → B ≤ k) : Below B a b :=
  ⟨h.os, h.tape, h.output, h.size, fun i hi => h.block i (Nat.lt_of_lt_of_le hi hB) fun hf => Nat.lt_irrefl _ (Nat.lt_of_lt_of_le hi (hF i hf))⟩
theorem Chg.of_grown {row : Option Nat} (h : a.grownBy b row) (hs : a.heap.size ≤ b.heap.size) (hF : ∀ k, row = some k → F k) : Chg F a b :=
  ⟨h.os, h.tape, h.output, hs, fun i hi hf => h.block i hi fun e => hf (hF i e.symm)⟩
end
end Go.Proofs.YtjjfdkdneibjbaaGreatDoor
/- Lists of numbers: what the program says of their type. -/
namespace Go.Proofs.YtjjfdkdneibjbaaGreatDoor
open Go.RowKit

theorem Tryz.infoIn : (Tryz.prog.info? 3).map (fun i => (i.zero, i.size, i.bytes)) = some (some (.int .i64 0), 1, 8) := by kernel_rfl
theorem one_int (n : Int) : ∀ u ∈ (#[Value.int .i64 n] : Array Value).toList, u.oneCell' = true := by
  intro u hu
  simp at hu
  subst hu
  rfl

theorem flat_ints (L : List Int) : eI.flat L = L.map (Value.int .i64) := by
  unfold Enc.flat
  induction L with
  | nil => rfl
  | cons x L ih => rw [List.flatMap_cons, ih]; rfl
end Go.Proofs.YtjjfdkdneibjbaaGreatDoor
/- Extents, as they lie. -/
namespace Go.Proofs.YtjjfdkdneibjbaaGreatDoor
open Go.RowKit

structure Ext where
  from_ : Int
  n : Int
  id : Int
def eE : Enc Ext := ⟨3, fun p j => match j with | 0 => .int .i64 p.from_ | 1 => .int .i64 p.n | _ => .int .i64 p.id⟩
theorem eE_one (L : List Ext) : ∀ u ∈ eE.flat L, u.oneCell' = true := by
  intro u hu
  obtain ⟨x, _, hx⟩ := List.mem_flatMap.1 hu
  simp only [Enc.cells, eE, List.mem_map, List.mem_range] at hx
  obtain ⟨j, hj, rfl⟩ := hx
  rcases (show j = 0 ∨ j = 1 ∨ j = 2 by omega) with rfl | rfl | rfl <;> rfl
theorem Tryz.infoE : ((Tryz.prog.info? 107).map fun i => (i.zero, i.size, i.bytes)) = some (some (.agg #[.int .i64 0, .int .i64 0, .int .i64 0]), 3, 24) := by kernel_rfl
end Go.Proofs.YtjjfdkdneibjbaaGreatDoor
/- All blocks of a pool that a map names. -/
namespace Go.Proofs.YtjjfdkdneibjbaaGreatDoor
open Go.RowKit

def idsX (x : Ext) : List Int := if 0 < x.id then (List.range x.n.toNat).map fun j : Nat => x.id + (j : Int) else []
def idsL (es : List Ext) : List Int := es.flatMap idsX
/-- Extents that lie within the volume. -/
def GoodE (es : List Ext) : Prop := ∀ x ∈ es, 0 ≤ x.from_ ∧ 1 ≤ x.n ∧ x.from_ + x.n ≤ 64 ∧ 0 ≤ x.id ∧ x.id ≤ 60
theorem idsL_snoc (es : List Ext) (x : Ext) : idsL (es ++ [x]) = idsL es ++ idsX x := by simp [idsL]
theorem idsL_le (es : List Ext) (h : GoodE es) : (idsL es).length ≤ 64 * es.length := by
  unfold idsL
  induction es with
  | nil => simp
  | cons x es ih =>
    rw [List.flatMap_cons, List.length_append, List.length_cons]
    have h1 := ih fun y hy => h y (List.mem_cons_of_mem _ hy)
    have h2 := h x List.mem_cons_self
    have h3 : (idsX x).length ≤ 64 := by
      unfold idsX; split
      · simp; omega
      · simp
    omega
set_option maxHeartbeats 1000000 in
theorem id_any (f n i k : Int) (w : World) (hi : 0 < i ∧ i ≤ 60) (hf : 0 ≤ f ∧ f ≤ 64) (hk : f ≤ k ∧ k ≤ 64) : Calls Tryz.prog 151 #[.agg #[.int .i64 f, .int .i64 n, .int .i64 i], .int .i64 k] w fun e w' => e = .returned (.int .i64 (i + k - f)) ∧ Below w.heap.size w w' := by
  have h0 : (i == 0) = false := beq_eq_false_iff_ne.2 (by omega)
  have B1 : Below w.heap.size w (w.alloc (.cells #[.int .i64 f, .int .i64 n, .int .i64 i] 107)) := (Below.refl _ _).alloc (Nat.le_refl _) _
  obtain ⟨i1, i2⟩ := hi
  obtain ⟨f1, f2⟩ := hf
  obtain ⟨k1, k2⟩ := hk
  go_enter Tryz.func151, Tryz.ntmps151
  go_wp2
  go_ret
  exact ⟨rfl, B1⟩
set_option maxHeartbeats 4000000 in
set_option maxRecDepth 100000 in
theorem ids_any (A : Option Addr) (n c : Nat) (es : List Ext) (w : World) (hs : Sl eE w A n c es) (hg : GoodE es) (h64 : n ≤ 64) : Calls Tryz.prog 90 #[.slice A n c] w fun e w' => ∃ A' c', e = .returned (.slice A' (idsL es).length c') ∧ Own eI 3 w' w.heap.size (.slice A' (idsL es).length c') (idsL es) ∧ Below w.heap.size w w' := by
  obtain ⟨i0, hi, hz0, hz1, hz2⟩ := info_parts Tryz.infoIn
  have hn := hs.1
  have b1 := hs.2.1
  have b2 := hs.2.2.1
  have R := hide hs.2.2.2
  have Hn := hide hn
  have Hg := hide hg
  clear hs hn hg
  go_enter Tryz.func90, Tryz.ntmps90
  go_wp2_with fail
  go_loopw [3, 9] (fun v j wr => ∃ k : Nat, k ≤ n ∧ j = .int .i64 k ∧ (∃ A c, v = .slice A (idsL (es.take k)).length c ∧ Own eI 3 wr w.heap.size (.slice A (idsL (es.take k)).length c) (idsL (es.take k))) ∧ Below w.heap.size w wr) (fun _ j _ => n - (intOf j).toNat)
  case atStart => exact ⟨0, Nat.zero_le _, rfl, ⟨none, 0, rfl, Own.nil _ _ _ _⟩, Below.refl _ _⟩
  case round =>
    obtain ⟨k, hk, rfl, ⟨Av, cv, rfl, hown⟩, HB⟩ := hrel
    by_cases hlt : k < n
    · have hke : k < es.length := by have := unhide Hn; omega
      obtain ⟨b, off, eA, lA, hr⟩ := unhide R (by omega)
      subst eA
      have x0 : wr.cell? ⟨b, off + k * 3, none⟩ = some (.int .i64 es[k].from_) := ((bcell HB).1 _ _ lA).trans (hr k hke 0 (by decide))
      have x1 : wr.cell? ⟨b, off + k * 3 + 1, none⟩ = some (.int .i64 es[k].n) := ((bcell HB).1 _ _ lA).trans (hr k hke 1 (by decide))
      have x2 : wr.cell? ⟨b, off + k * 3 + 2, none⟩ = some (.int .i64 es[k].id) := ((bcell HB).1 _ _ lA).trans (hr k hke 2 (by decide))
      obtain ⟨g1, g2, g3, g4, g5⟩ := unhide Hg es[k] (List.getElem_mem hke)
      have hsn := hide (show idsL (es.take (k + 1)) = idsL (es.take k) ++ idsX es[k] by rw [← idsL_snoc, List.take_append_getElem hke])
      have hle : (idsL (es.take k)).length ≤ 64 * 64 := by
        have := idsL_le (es.take k) fun y hy => unhide Hg y (List.mem_of_mem_take hy)
        rw [List.length_take] at this
        have := unhide Hn
        omega
      obtain ⟨L, hL⟩ : ∃ L, L = idsL (es.take k) := ⟨_, rfl⟩
      rw [← hL] at hown hsn hle ⊢
      obtain ⟨x, hx⟩ : ∃ x, x = es[k] := ⟨_, rfl⟩
      rw [← hx] at x0 x1 x2 g1 g2 g3 g4 g5 hsn
      obtain ⟨f, m, i⟩ := x
      have x0 : wr.cell? ⟨b, off + k * 3, none⟩ = some (.int .i64 f) := x0
      have x1 : wr.cell? ⟨b, off + k * 3 + 1, none⟩ = some (.int .i64 m) := x1
      have x2 : wr.cell? ⟨b, off + k * 3 + 2, none⟩ = some (.int .i64 i) := x2
      have g1 : 0 ≤ f := g1
      have g2 : 1 ≤ m := g2
      have g3 : f + m ≤ 64 := g3
      have g4 : 0 ≤ i := g4
      have g5 : i ≤ 60 := g5
      obtain ⟨M, rfl⟩ : ∃ M : Nat, m = (M : Int) := ⟨m.toNat, by omega⟩
      have hix : 0 < i → idsX ⟨f, M, i⟩ = (List.range M).map fun j : Nat => i + (j : Int) := fun h => by unfold idsX; rw [if_pos h]; simp
      have hix0 : ¬ 0 < i → idsX ⟨f, M, i⟩ = [] := fun h => by unfold idsX; rw [if_neg h]
      have Hix := hide hix
      have Hix0 := hide hix0
      have Hown := hide hown
      have hbl := hown.sl
      clear hr hL hx hix hix0 hown hbl
      obtain ⟨w1, hw1⟩ : ∃ W, W = wr.alloc (.cells #[.int .i64 f, .int .i64 M, .int .i64 i] 107) := ⟨_, rfl⟩
      obtain ⟨p, hp⟩ : ∃ p, p = wr.heap.size := ⟨_, rfl⟩
      have B1 : Below w.heap.size w w1 := by rw [hw1]; exact HB.alloc HB.size _
      have c0 : w1.cell? ⟨p, 0, none⟩ = some (.int .i64 f) := by rw [hw1, hp]; exact World.cell?_alloc_at _ _ _ _ rfl
      have c1 : w1.cell? ⟨p, 1, none⟩ = some (.int .i64 M) := by rw [hw1, hp]; exact World.cell?_alloc_at _ _ _ _ rfl
      have c2 : w1.cell? ⟨p, 2, none⟩ = some (.int .i64 i) := by rw [hw1, hp]; exact World.cell?_alloc_at _ _ _ _ rfl
      have sp : w.heap.size ≤ p := by rw [hp]; exact HB.size
      have s1 : p < w1.heap.size := by rw [hw1, hp]; simp
      have o1 := hide (show Own eI 3 w1 w.heap.size (.slice Av L.length cv) L by rw [hw1]; exact (unhide Hown).alloc _)
      have q1 := hide (show ∀ q, (Value.slice Av L.length cv).ownBlock = some q → q ≠ p from fun q hq e => by have := ((unhide Hown).lt q hq).2; omega)
      go_wp2_with fail
      rw [← hw1, ← hp]
      clear hw1 hp HB Hown
      by_cases hip : 0 < i
      · go_loopw [3, 6] (fun v j w2 => ∃ q : Nat, q ≤ M ∧ j = .int .i64 (f + q) ∧ (∃ A c, v = .slice A (L.length + q) c ∧ Own eI 3 w2 w.heap.size (.slice A (L.length + q) c) (L ++ (List.range q).map fun j : Nat => i + (j : Int)) ∧ ∀ b, (Value.slice A (L.length + q) c).ownBlock = some b → b ≠ p) ∧ w2.cell? ⟨p, 0, none⟩ = some (.int .i64 f) ∧ w2.cell? ⟨p, 1, none⟩ = some (.int .i64 M) ∧ w2.cell? ⟨p, 2, none⟩ = some (.int .i64 i) ∧ Below w.heap.size w w2 ∧ p < w2.heap.size) (fun _ j _ => (f + M - intOf j).toNat)
        case atStart => exact ⟨0, Nat.zero_le _, by simp, ⟨Av, cv, rfl, by simpa using unhide o1, unhide q1⟩, c0, c1, c2, B1, s1⟩
        case round =>
          obtain ⟨q, hq, rfl, ⟨A2, c2', rfl, ho2, hb2⟩, d0, d1, d2, HB2, sp2⟩ := hrel
          have Ho2 := hide ho2
          have Hb2 := hide hb2
          clear ho2 hb2
          by_cases hlq : q < M
          · have hlq' : f + (q : Int) < f + M := by omega
            go_wp2_with fail
            refine (id_any f M i (f + q) wr ⟨hip, g5⟩ ⟨g1, by omega⟩ ⟨by omega, by omega⟩).mono ?_
            rintro e w3 ⟨rfl, HB3⟩
            rw [show i + (f + (q : Int)) - f = i + q by omega]
            have e0 := ((bcell HB3).1 p 0 sp2).trans d0
            have e1 := ((bcell HB3).1 p 1 sp2).trans d1
            have e2 := ((bcell HB3).1 p 2 sp2).trans d2
            have s3 := HB3.size
            have B3 : Below w.heap.size w w3 := HB2.trans (HB3.mono HB2.size)
            have o3 := (unhide Ho2).below HB3
            have hl3 : (L ++ (List.range q).map fun j : Nat => i + (j : Int)).length = L.length + q := by simp
            have Hl3 := hide hl3
            clear HB3 d0 d1 d2 hl3
            go_wp2_with (at_builtin; refine wpList_append_one eI rfl _ _ _ rfl w.heap.size 3 i0 (.int .i64 0) 8 Tryz.underlying52 hi hz0 hz1 hz2 rfl (by decide) (.slice A2 (L.length + q) c2') (L ++ (List.range q).map fun j : Nat => i + (j : Int)) rfl _ o3 (i + q) #[.int .i64 (i + q)] rfl (by simp [Act.eval]) (one_int _) ?c3 ?c4 ?c5 ?_)
            case c3 => rw [unhide Hl3]; unfold maxLen; omega
            case c4 => rw [unhide Hl3]; omega
            case c5 => exact B3.size
            intro v4 w4 hown4 hgr4 hloc4
            have hal (w : World) (o : Obj) : (w.alloc o).heap.size = w.heap.size + 1 := by show (w.heap.push o).size = _; simp
            have hb3 := B3.alloc B3.size (.cells #[.int .i64 (i + q)] 3)
            have B4 : Below w.heap.size w w4 := hb3.grown hgr4 hb3.size fun j hj => (o3.lt j hj).1
            obtain ⟨A4, c4, hv4, _⟩ := hown4.sl
            have hv5 : v4 = .slice A4 (L.length + (q + 1)) c4 := by rw [hv4]; simp
            clear hv4
            subst hv5
            have ep : w4.heap[p]? = w3.heap[p]? := (hgr4.block p (by rw [hal]; omega) fun e => unhide Hb2 p e.symm rfl).trans (Below.heap_alloc w3 _ p (by omega))
            have k0 := (World.cell?_of_block (a := ⟨p, 0, none⟩) ep).trans e0
            have k1 := (World.cell?_of_block (a := ⟨p, 1, none⟩) ep).trans e1
            have k2 := (World.cell?_of_block (a := ⟨p, 2, none⟩) ep).trans e2
            have s4 : p < w4.heap.size := by have := hgr4.size; rw [hal] at this; omega
            have hb4 : ∀ b, (Value.slice A4 (L.length + (q + 1)) c4).ownBlock = some b → b ≠ p := fun b hb e => by
              rcases hloc4 with l | l
              · exact unhide Hb2 b (l ▸ hb) e
              · rw [l] at hb; injection hb with hb; omega
            have ho4 : Own eI 3 w4 w.heap.size (.slice A4 (L.length + (q + 1)) c4) (L ++ (List.range (q + 1)).map fun j : Nat => i + (j : Int)) := by
              rw [List.range_succ, List.map_append]
              exact hown4
            have Ho4 := hide ho4
            have Hb4 := hide hb4
            clear hown4 hgr4 hloc4 ho4 hb4 hb3 o3 e0 e1 e2 B3 ep
            go_wp2
            go_roundw
            case rel => exact ⟨q + 1, by omega, by go_num, ⟨A4, c4, rfl, unhide Ho4, unhide Hb4⟩, k0, k1, k2, B4, s4⟩
            case measure => simp [intOf]; omega
          · have hqM : q = M := by omega
            subst hqM
            have hlq' : ¬ f + (q : Int) < f + q := by omega
            have hfin := hide (show idsL (es.take (k + 1)) = L ++ (List.range q).map fun j : Nat => i + (j : Int) by rw [unhide hsn, unhide Hix hip])
            go_wp2
            go_roundw
            case rel =>
              refine ⟨k + 1, by omega, by go_num, ⟨A2, c2', ?_, ?_⟩, HB2⟩
              · rw [unhide hfin]; simp
              · rw [unhide hfin]; simpa using unhide Ho2
            case measure => simp [intOf]; omega
      · go_loopw [3, 6] (fun v j w2 => v = .slice Av L.length cv ∧ j = .int .i64 f ∧ w2 = w1) (fun _ _ _ => 0)
        case atStart => exact ⟨rfl, rfl, rfl⟩
        case round =>
          obtain ⟨rfl, rfl, hw2⟩ := hrel
          obtain rfl := hw2.symm
          have hfin := hide (show idsL (es.take (k + 1)) = L by rw [unhide hsn, unhide Hix0 (by omega), List.append_nil])
          go_wp2
          go_roundw
          case rel => exact ⟨k + 1, by omega, by go_num, ⟨Av, cv, by rw [unhide hfin], by rw [unhide hfin]; exact unhide o1⟩, B1⟩
          case measure => simp [intOf]; omega
    · have hkn : k = n := by omega
      subst hkn
      have hte : es.take k = es := List.take_of_length_le (by have := unhide Hn; omega)
      rw [hte] at hown ⊢
      have Hown := hide hown
      clear hown hte
      go_wp2
      go_ret
      exact ⟨_, _, rfl, unhide Hown, HB⟩
end Go.Proofs.YtjjfdkdneibjbaaGreatDoor
