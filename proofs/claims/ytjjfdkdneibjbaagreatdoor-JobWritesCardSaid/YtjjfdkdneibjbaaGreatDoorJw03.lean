/- Joined texts: Append, ArrA, ArrB, Span. -/
import Derived.Test.YtjjfdkdneibjbaaGreatDoorJw01
import Derived.ArgAppend
import Derived.Test.YtjjfdkdneibjbaaGreatDoorJw02
import Derived.Deep.MidRow
import Derived.Deep.RegionHeld3
import Derived.Laws.ResultCell
import Derived.Laws.Rows
/- append onto a row of the call's own: in place, or into a new block and the old one stays. -/
namespace Go.Proofs.YtjjfdkdneibjbaaGreatDoor
open Go.RowKit

section
variable {α : Type} {P : Program} {ops : Array Oper} {rest : List Oper} {o : Oper} {a : Act} {Q : Exit → Act → World → Prop}
theorem Sl.cells_at {E : Enc α} {w : World} {b off n c : Nat} {ys : List α} (hr : Sl E w (some ⟨b, off, none⟩) n c ys) (hsz : 0 < E.sz) : ∀ j u, (E.flat ys)[j]? = some u → w.cell? ((⟨b, off, none⟩ : Addr).add j) = some u := by
  intro j u hj
  have hjl : j < ys.length * E.sz := by rw [← Enc.flat_len]; exact (List.getElem?_eq_some_iff.1 hj).1
  have h0 : 0 < n := by
    have h1 := hr.1
    rcases Nat.eq_zero_or_pos n with h | h
    · rw [h] at h1; rw [← h1] at hjl; simp at hjl
    · exact h
  obtain ⟨b', off', e, hb, hrd⟩ := hr.2.2.2 h0
  injection e with e
  injection e with e1 e2
  subst e1 e2
  have hd : j = j / E.sz * E.sz + j % E.sz := (Nat.div_add_mod' j E.sz).symm
  have hi' : j / E.sz < ys.length := (Nat.div_lt_iff_lt_mul hsz).2 hjl
  have hm' : j % E.sz < E.sz := Nat.mod_lt _ hsz
  rw [Go.WideShapes.add_plain]
  rw [hd, Enc.flat_at hi' hm'] at hj
  have := hrd _ hi' _ hm'
  rw [Nat.add_assoc, ← hd] at this
  rw [this, ← hj]
theorem wpList_append_two (E : Enc α) (hgd : o.guard = none) (s y : Operand) (t : TypeId) (ho : o.op = .call { callee := .builtin .append, args := #[s, y], argTypes := #[t, t] })
    (base : Nat) (e : TypeId) (i : TypeInfo) (z : Value) (bytes : Nat) (ht : P.underlying t = some (.slice e)) (hi : P.info? e = some i) (hz : i.zero = some z)
    (hsize : i.size = E.sz) (hby : i.bytes = bytes) (hzs : z.cells.size = E.sz) (hsz : 0 < E.sz) (v : Value) (xs : List α) (hs : a.eval s = v) (w : World) (hown : Own E e w base v xs)
    (A : Option Addr) (n c : Nat) (ys : List α) (hy : a.eval y = .slice A n c) (hr : Sl E w A n c ys) (h1 : ∀ u ∈ E.flat ys, u.oneCell' = true)
    (h63 : xs.length + n ≤ maxLen) (hbytes : (xs.length + n) * bytes ≤ 140737488355328) (hbase : base ≤ w.heap.size)
    (h : ∀ v' w', Own E e w' base v' (xs ++ ys) → ((v'.ownBlock = v.ownBlock ∧ w.grownBy w' v.ownBlock) ∨ (Own E e w' w.heap.size v' (xs ++ ys) ∧ w.grownBy w' none)) → wpList P ops Q rest (a.put o.dst v') w') :
    wpList P ops Q (o :: rest) a w := by
  have hn := hr.1
  have hlen : (E.flat ys).length = n * E.sz := by rw [Enc.flat_len, hn]
  have key : ∀ v' w', (Builtin.append_ #[t, t] o.type #[v, .slice A n c]).run P w = .ok v' w' → Own E e w' base v' (xs ++ ys) → ((v'.ownBlock = v.ownBlock ∧ w.grownBy w' v.ownBlock) ∨ (Own E e w' w.heap.size v' (xs ++ ys) ∧ w.grownBy w' none)) → wpList P ops Q (o :: rest) a w := by
    intro v' w' hrun h2 h3
    refine wpList_plain hgd fun K hK => ?_
    unfold Oper.wp execOp
    simp only [ho, resolve, invoke, builtin, Sem.run_bind, Sem.run_pure, Result.andThen_ok, List.map_toArray, List.map_cons, List.map_nil, hs, hy, hrun]
    exact hK _ _ (h v' w' h2 h3)
  have hempty : ∀ (hys : ys = []), A = none → wpList P ops Q (o :: rest) a w := by
    intro hys hA
    subst hys hA
    have h0 : n = 0 := hn
    subst h0
    have hrun : (Builtin.append_ #[t, t] o.type #[v, .slice none 0 c]).run P w = .ok v w := by
      rcases hown.2 with ⟨rfl, _⟩ | ⟨g, cap, cur, rfl, _, _, hnc, _⟩
      · simp [Builtin.append_, run_underlying ht, sizeOf, typeInfo, hi, Builtin.lenOf, Builtin.firstCells]
      · simp [Builtin.append_, run_underlying ht, sizeOf, typeInfo, hi, Builtin.lenOf, Builtin.firstCells, hnc, storeCells]
    exact key v w hrun (by simpa using hown) (.inl ⟨rfl, World.grownBy.refl w _⟩)
  rcases hA : A with _ | ad
  · by_cases h0 : n = 0
    · exact hempty (List.eq_nil_of_length_eq_zero (by omega)) hA
    · obtain ⟨b, off, e1, _⟩ := hr.2.2.2 (by omega)
      rw [hA] at e1; cases e1
  · subst hA
    have hcells : ∀ j u, (E.flat ys)[j]? = some u → w.cell? (ad.add j) = some u := by
      by_cases h0 : n = 0
      · intro j u hj
        have : E.flat ys = [] := List.eq_nil_of_length_eq_zero (by rw [hlen, h0]; simp)
        rw [this] at hj; simp at hj
      · obtain ⟨b, off, e1, hb, hrd⟩ := hr.2.2.2 (by omega)
        injection e1 with e1
        subst e1
        exact hr.cells_at hsz
    rcases hown.2 with ⟨rfl, hx0⟩ | ⟨g, cap, cur, rfl, hg, hh, hnc, hm, hcs, htk⟩
    · have hxs : xs = [] := List.eq_nil_of_length_eq_zero hx0
      subst hxs
      obtain ⟨v', w', hrun, h2, h3, h4, h5⟩ := run_append_own_at (P := P) w w.heap.size t o.type e i z E.sz bytes ht hi hz hsize hby hzs hsz (.slice none 0 0) 0 [] (World.ownsRow_nil _ _ _ _) ad n c (E.flat ys) hlen hcells h1 (by simpa using h63) (by simpa using hbytes) (Nat.le_refl _)
      have ho' : Own E e w' w.heap.size v' ([] ++ ys) := by
        unfold Own
        rw [List.nil_append, ← hn]
        simpa using h2
      exact key v' w' hrun (ho'.lower hbase) (.inr ⟨ho', h3⟩)
    · by_cases hfit : xs.length + n ≤ cap
      · obtain ⟨w', hrun, h2, h3⟩ := run_append_fits (P := P) w base t o.type e i E.sz ht hi hsize g xs.length cap (E.flat xs) hown ad n c (E.flat ys) hlen hcells h1 hfit
        refine key _ w' hrun ?_ (.inl ⟨rfl, h3⟩)
        unfold Own
        rw [List.length_append, Enc.flat_app, ← hn]
        exact h2
      · obtain ⟨v', w', hrun, h2, h3⟩ := run_append_arg_grows (P := P) w t o.type e i z E.sz bytes ht hi hz hsize hby hzs hsz ⟨g, 0, none⟩ xs.length cap (E.flat xs) (Enc.flat_len xs) (fun j u hj => by
            have hj' : j < xs.length * E.sz := by rw [← Enc.flat_len]; exact (List.getElem?_eq_some_iff.1 hj).1
            rw [Go.WideShapes.add_plain, Nat.zero_add, World.ownsRow.cellAt hown j hj', hj]) ad n c (E.flat ys) hlen hcells (by omega) h63 hbytes
        have ho' : Own E e w' w.heap.size v' (xs ++ ys) := by
          unfold Own
          rw [List.length_append, Enc.flat_app, ← hn]
          exact h2
        exact key v' w' hrun (ho'.lower hbase) (.inr ⟨ho', h3⟩)
end
end Go.Proofs.YtjjfdkdneibjbaaGreatDoor
/- Arrays of 64 numbers: a block that holds one; the map that says nothing. -/
namespace Go.Proofs.YtjjfdkdneibjbaaGreatDoor
open Go.RowKit

/-- The cells of so many numbers. -/
def numCells (L : List Int) : List Value := L.map (Value.int .i64)
/-- An array's value. -/
def arrV (L : List Int) : Value := .agg (numCells L).toArray
theorem numCells_len (L : List Int) : (numCells L).length = L.length := by simp [numCells]
theorem numCells_one (L : List Int) : ∀ v ∈ numCells L, v.oneCell' = true := by
  intro v hv
  obtain ⟨x, _, rfl⟩ := List.mem_map.1 hv
  rfl
/-- Block b is an array of numbers. -/
def Arr (w : World) (b : Nat) (t : TypeId) (L : List Int) : Prop := w.heap[b]? = some (.cells (numCells L).toArray t)
variable {w w' : World} {b t : Nat} {L : List Int}
theorem Arr.blk (h : Arr w b t L) : w.heap[b]? = some (.cells (numCells L).toArray t) := h
theorem Arr.lt (h : Arr w b t L) : b < w.heap.size := (Array.getElem?_eq_some_iff.1 h).1
theorem Arr.cell (h : Arr w b t L) {k : Nat} (hk : k < L.length) : w.cell? ⟨b, k, none⟩ = some (.int .i64 L[k]) := by
  simp [World.cell?, h.blk, numCells, hk]
theorem Arr.frozen (h : Arr w b t L) (k : Nat) : w.frozen? ⟨b, k, none⟩ = false := by
  simp [World.frozen?, h.blk]
theorem Arr.kept (h : Arr w b t L) (hb : w'.heap[b]? = w.heap[b]?) : Arr w' b t L := hb.trans h
theorem Arr.below (h : Arr w b t L) (hb : Below w.heap.size w w') : Arr w' b t L := h.kept (hb.block b h.lt)
theorem Arr.range (h : Arr w b t L) : w.rangeAt b 0 (numCells L) := fun j v hv => by
  rw [Nat.zero_add]
  simp [World.cell?, h.blk, hv]
theorem Arr.there (h : Arr w b t L) {n : Nat} (hn : n = L.length) : w.there b 0 n := fun j hj => by
  rw [Nat.zero_add, h.cell (by omega), h.frozen]
  exact ⟨rfl, rfl⟩
theorem Arr.set (h : Arr w b t L) (k : Nat) (x : Int) : Arr (w.setCell ⟨b, k, none⟩ (.int .i64 x)) b t (L.set k x) := by
  show (w.setCell ⟨b, k, none⟩ (.int .i64 x)).heap[b]? = _
  simp [World.setCell, Array.getElem?_modify, h.blk, numCells, List.map_set]
theorem setCells_block (b : Nat) (t : TypeId) (fr : Nat × Nat) : ∀ (vs : List Value) (pre : List Value) (old : List Value) (w : World), old.length = vs.length → w.heap[b]? = some (.cells (pre ++ old).toArray t fr) → (w.setCells b pre.length vs).heap[b]? = some (.cells (pre ++ vs).toArray t fr)
  | [], pre, old, _, h1, h2 => by
    have : old = [] := List.eq_nil_of_length_eq_zero h1
    subst this
    exact h2
  | v :: vs, pre, old, w, h1, h2 => by
    obtain ⟨x, old, rfl⟩ : ∃ x r, old = x :: r := by
      cases old with
      | nil => simp at h1
      | cons x r => exact ⟨x, r, rfl⟩
    have hl : old.length = vs.length := by simpa using h1
    have h3 : (w.setCell ⟨b, pre.length, none⟩ v).heap[b]? = some (.cells ((pre ++ [v]) ++ old).toArray t fr) := by
      simp [World.setCell, Array.getElem?_modify, h2]
    have := setCells_block b t fr vs (pre ++ [v]) old _ hl h3
    rw [List.length_append, List.length_singleton] at this
    show ((w.setCell ⟨b, pre.length, none⟩ v).setCells b (pre.length + 1) vs).heap[b]? = _
    rw [this]
    simp
theorem setCells_other (b : Nat) : ∀ (vs : List Value) (o : Nat) (w : World) (k : Nat), k ≠ b → (w.setCells b o vs).heap[k]? = w.heap[k]?
  | [], _, _, _, _ => rfl
  | v :: vs, o, w, k, h => (setCells_other b vs (o + 1) _ k h).trans (Below.heap_setCell w ⟨b, o, none⟩ v k h)
theorem below_setCells {B b : Nat} {a : World} (hb : B ≤ b) : ∀ (vs : List Value) (o : Nat) (w : World), Below B a w → Below B a (w.setCells b o vs)
  | [], _, _, h => h
  | v :: vs, o, _, h => below_setCells hb vs (o + 1) _ (h.setCell (p := ⟨b, o, none⟩) hb v)
theorem size_setCells (b : Nat) : ∀ (vs : List Value) (o : Nat) (w : World), (w.setCells b o vs).heap.size = w.heap.size
  | [], _, _ => rfl
  | v :: vs, o, w => (size_setCells b vs (o + 1) _).trans (by simp [World.setCell])
theorem Arr.store (h : Arr w b t L) {M : List Int} (hn : M.length = L.length) : Arr (w.setCells b 0 (numCells M)) b t M :=
  setCells_block b t (0, 0) (numCells M) [] (numCells L) w (by rw [numCells_len, numCells_len, hn]) h
theorem Arr.alloc (w : World) (t : TypeId) (L : List Int) : Arr (w.alloc (.cells (numCells L).toArray t)) w.heap.size t L := by
  show (w.heap.push _)[w.heap.size]? = _
  simp
theorem Tryz.infoMap : (Tryz.prog.info? 48).map (·.size) = some 64 := by kernel_rfl
/-- The map that says nothing. -/
def noneL (k : Nat) : List Int := List.replicate k (-1) ++ List.replicate (64 - k) 0
theorem noneL_len {k : Nat} (h : k ≤ 64) : (noneL k).length = 64 := by simp [noneL]; omega
theorem noneL_at {k i : Nat} (hk : k ≤ 64) : (noneL k)[i]? = if i < k then some (-1) else if i < 64 then some 0 else none := by
  unfold noneL
  rw [List.getElem?_append]
  simp only [List.length_replicate, List.getElem?_replicate]
  by_cases h1 : i < k
  · rw [if_pos h1, if_pos h1, if_pos h1]
  · rw [if_neg h1, if_neg h1]
    by_cases h2 : i < 64
    · rw [if_pos h2, if_pos (by omega)]
    · rw [if_neg h2, if_neg (by omega)]
theorem noneL_succ {k : Nat} (h : k < 64) : noneL (k + 1) = (noneL k).set k (-1) := by
  apply List.ext_getElem?
  intro i
  rw [List.getElem?_set, noneL_at (by omega), noneL_at (by omega), noneL_len (by omega)]
  by_cases h1 : k = i
  · subst h1
    rw [if_pos (by omega), if_pos rfl, if_pos h]
  · rw [if_neg h1]
    by_cases h2 : i < k
    · rw [if_pos (by omega), if_pos h2]
    · rw [if_neg (by omega), if_neg h2]
/-- A function whose result lies in a block: its value. -/
theorem results_arr {fn : Func} {tmps : Array Value} {P : Program} {w : World} {r b n e : Nat} {ty : TypeId} {L : List Int} (h : fn.results = #[.cell r ty]) (hr : tmps.getD r undef = .pointer (some ⟨b, 0, none⟩)) (ha : Arr w b ty L) (hu : P.underlying ty = some (.array n e)) (hi : (P.info? ty).map (·.size) = some L.length) :
    (results fn tmps).run P w = .ok (arrV L) w := by
  have := run_loadVar_mid (P := P) w b 0 ty (numCells L) (.array n e) ha.range hu rfl (by rw [hi, numCells_len])
  rw [Array.getD_eq_getD_getElem?] at hr
  simp [results, h, hr, asAddr, this, arrV]
set_option maxHeartbeats 2000000 in
set_option maxRecDepth 100000 in
theorem refnone_any (w : World) : Calls Tryz.prog 35 #[] w fun e w' => e = .returned (arrV (noneL 64)) ∧ Below w.heap.size w w' := by
  go_enter Tryz.func35, Tryz.ntmps35
  go_wp2
  obtain ⟨w1, hw1⟩ : ∃ w1, w1 = w.alloc (.cells (numCells (noneL 0)).toArray 48) := ⟨_, rfl⟩
  obtain ⟨w2, hw2⟩ : ∃ w2, w2 = w1.alloc (.cells (numCells (noneL 0)).toArray 48) := ⟨_, rfl⟩
  have B1 : Below w.heap.size w w1 := by rw [hw1]; exact (Below.refl _ _).alloc (Nat.le_refl _) _
  have s1 : w1.heap.size = w.heap.size + 1 := by rw [hw1]; show (w.heap.push _).size = _; simp
  have a0 : Arr w1 w.heap.size 48 (noneL 0) := by rw [hw1]; exact Arr.alloc w _ _
  have B2 : Below w.heap.size w w2 := by rw [hw2]; exact B1.alloc (by omega) _
  have a1 : Arr w2 w.heap.size 48 (noneL 0) := by rw [hw2]; exact a0.kept (Below.heap_alloc w1 _ _ (by omega))
  have a2 : Arr w2 (w.heap.size + 1) 48 (noneL 0) := by rw [hw2, ← s1]; exact Arr.alloc w1 _ _
  change Code.wp _ _ _ _ ((w.alloc (.cells (numCells (noneL 0)).toArray 48)).alloc (.cells (numCells (noneL 0)).toArray 48))
  rw [← hw1, ← hw2]
  clear hw1 hw2
  go_loopw [2] (fun j wr => ∃ k : Nat, k ≤ 64 ∧ j = .int .i64 k ∧ Arr wr w.heap.size 48 (noneL 0) ∧ Arr wr (w.heap.size + 1) 48 (noneL k) ∧ Below w.heap.size w wr) (fun j _ => 64 - (intOf j).toNat)
  case atStart => exact ⟨0, by omega, rfl, a1, a2, B2⟩
  case round =>
    obtain ⟨k, hk, rfl, h1, h2, HB⟩ := hrel
    by_cases hlt : k < 64
    · have hl : k < (noneL k).length := by rw [noneL_len hk]; exact hlt
      have c1 := h2.cell hl
      obtain ⟨x, hx⟩ : ∃ x, wr.cell? ⟨w.heap.size + 1, k, none⟩ = some (.int .i64 x) := ⟨_, c1⟩
      have f1 := h2.frozen k
      have g1 := hide (h1.kept (w' := wr.setCell ⟨w.heap.size + 1, k, none⟩ (.int .i64 (-1))) (Below.heap_setCell wr ⟨w.heap.size + 1, k, none⟩ _ _ (by simp)))
      have g2 := hide (h2.set k (-1))
      rw [← noneL_succ hlt] at g2
      have B3 : Below w.heap.size w (wr.setCell ⟨w.heap.size + 1, k, none⟩ (.int .i64 (-1))) := HB.setCell (p := ⟨w.heap.size + 1, k, none⟩) (by simp) _
      clear h1 h2 c1 hl
      go_wp2
      go_roundw
      case rel => exact ⟨k + 1, by omega, by go_num, unhide g1, unhide g2, B3⟩
      case measure => simp [intOf]; omega
    · have hk64 : k = 64 := by omega
      subst hk64
      have H1 := hide h1
      have H2 := hide h2
      clear h1 h2
      go_wp2_with (first | (refine wpList_load_mid rfl _ _ rfl (w.heap.size + 1) 0 rfl (numCells (noneL 64)) _ (unhide H2).range Tryz.underlying48 rfl (by rw [Tryz.infoMap, numCells_len, noneL_len (by omega)]) ?_) | (refine wpList_store_mid rfl _ _ _ rfl w.heap.size 0 (numCells (noneL 64)).toArray rfl rfl ((unhide H1).there (by simp [numCells, noneL])) (by rw [Tryz.infoMap]; simp [numCells, noneL]) (all_oneCell_toArray (numCells_one _)) ?_))
      refine bodyPost_ret (v := arrV (noneL 64)) (results_arr Tryz.results35 rfl ((unhide H1).store (by simp [noneL])) Tryz.underlying48 (by rw [Tryz.infoMap, noneL_len (by omega)])) rfl ⟨rfl, below_setCells (Nat.le_refl _) _ _ _ HB⟩
end Go.Proofs.YtjjfdkdneibjbaaGreatDoor
/- An extent by itself; a map's blocks are set. -/
namespace Go.Proofs.YtjjfdkdneibjbaaGreatDoor
open Go.RowKit

/-- Is a stretch of blocks within the volume? -/
def wholeB (f n : Int) : Bool := decide (0 ≤ f ∧ f ≤ 64 ∧ 1 ≤ n ∧ n ≤ 64 ∧ f + n ≤ 64)
def aloneB (f n i : Int) : Bool := wholeB f n && decide (0 ≤ i ∧ (i = 0 ∨ (i ≤ 60 ∧ n ≤ 60 ∧ i + n ≤ 61)))
set_option maxHeartbeats 1000000 in
theorem whole_any (f n : Int) (w : World) : Calls Tryz.prog 84 #[.agg #[.int .i64 f, .int .i64 n]] w fun e w' => e = .returned (.bool (wholeB f n)) ∧ Below w.heap.size w w' := by
  have B1 : Below w.heap.size w (w.alloc (.cells #[.int .i64 f, .int .i64 n] 59)) := (Below.refl _ _).alloc (Nat.le_refl _) _
  by_cases hw : 0 ≤ f ∧ f ≤ 64 ∧ 1 ≤ n ∧ n ≤ 64
  · obtain ⟨h1, h2, h3, h4⟩ := hw
    go_enter Tryz.func84, Tryz.ntmps84
    go_wp2
    go_ret
    refine ⟨ret_bool ?_, B1⟩
    unfold wholeB
    rw [decide_eq_decide]
    omega
  · have hb : wholeB f n = false := by
      unfold wholeB
      rw [decide_eq_false_iff_not]
      omega
    rw [hb]
    clear hb
    rcases (show f < 0 ∨ (0 ≤ f ∧ 64 < f) ∨ (0 ≤ f ∧ f ≤ 64 ∧ n < 1) ∨ (0 ≤ f ∧ f ≤ 64 ∧ 1 ≤ n ∧ 64 < n) by omega) with h | ⟨h, h'⟩ | ⟨h, h', h''⟩ | ⟨h, h', h'', h'''⟩
    all_goals
      clear hw
      go_enter Tryz.func84, Tryz.ntmps84
      go_wp2
      go_ret
      first | exact ⟨rfl, B1⟩ | (refine ⟨ret_bool ?_, B1⟩; simp; omega)
set_option maxHeartbeats 2000000 in
theorem alone_any (f n i : Int) (w : World) : Calls Tryz.prog 129 #[.agg #[.int .i64 f, .int .i64 n, .int .i64 i]] w fun e w' => e = .returned (.bool (aloneB f n i)) ∧ Below w.heap.size w w' := by
  obtain ⟨w1, hw1⟩ : ∃ w1, w1 = w.alloc (.cells #[.int .i64 f, .int .i64 n, .int .i64 i] 107) := ⟨_, rfl⟩
  have B1 : Below w.heap.size w w1 := by rw [hw1]; exact (Below.refl _ _).alloc (Nat.le_refl _) _
  have c0 : w1.cell? ⟨w.heap.size, 0, none⟩ = some (.int .i64 f) := by rw [hw1]; exact World.cell?_alloc_at _ _ _ _ rfl
  have c1 : w1.cell? ⟨w.heap.size, 1, none⟩ = some (.int .i64 n) := by rw [hw1]; exact World.cell?_alloc_at _ _ _ _ rfl
  have c2 : w1.cell? ⟨w.heap.size, 2, none⟩ = some (.int .i64 i) := by rw [hw1]; exact World.cell?_alloc_at _ _ _ _ rfl
  have s1 : w.heap.size < w1.heap.size := by rw [hw1]; simp
  go_enter Tryz.func129, Tryz.ntmps129
  go_wp2_with fail
  rw [← hw1]
  clear hw1
  refine (whole_any f n w1).mono ?_
  rintro e w2 ⟨rfl, HB2⟩
  have d0 := ((bcell HB2).1 _ 0 s1).trans c0
  have d1 := ((bcell HB2).1 _ 1 s1).trans c1
  have d2 := ((bcell HB2).1 _ 2 s1).trans c2
  have B2 : Below w.heap.size w w2 := B1.trans (HB2.mono (by omega))
  clear HB2 c0 c1 c2
  by_cases hw : wholeB f n = true
  · have hn : 1 ≤ n ∧ n ≤ 64 := by
      unfold wholeB at hw
      rw [decide_eq_true_iff] at hw
      omega
    obtain ⟨n1, n2⟩ := hn
    rw [hw]
    have Hw := hide hw
    clear hw
    rcases (show i < 0 ∨ i = 0 ∨ (0 < i ∧ 60 < i) ∨ (0 < i ∧ i ≤ 60 ∧ 60 < n) ∨ (0 < i ∧ i ≤ 60 ∧ n ≤ 60) by omega) with h | h | ⟨h, h'⟩ | ⟨h, h', h''⟩ | ⟨h, h', h''⟩
    · have hr := hide (show aloneB f n i = false by unfold aloneB; rw [unhide Hw]; simp; omega)
      go_wp2
      go_ret
      exact ⟨ret_bool (unhide hr).symm, B2⟩
    · subst h
      have hr := hide (show aloneB f n 0 = true by unfold aloneB; rw [unhide Hw]; simp)
      go_wp2
      go_ret
      exact ⟨ret_bool (unhide hr).symm, B2⟩
    · have hr := hide (show aloneB f n i = false by unfold aloneB; rw [unhide Hw]; simp; omega)
      have h0 : (i == 0) = false := beq_eq_false_iff_ne.2 (by omega)
      go_wp2
      go_ret
      exact ⟨ret_bool (unhide hr).symm, B2⟩
    · have hr := hide (show aloneB f n i = false by unfold aloneB; rw [unhide Hw]; simp; omega)
      have h0 : (i == 0) = false := beq_eq_false_iff_ne.2 (by omega)
      go_wp2
      go_ret
      exact ⟨ret_bool (unhide hr).symm, B2⟩
    · have hr := hide (show aloneB f n i = decide (i + n ≤ 61) by unfold aloneB; rw [unhide Hw, Bool.true_and, decide_eq_decide]; omega)
      have h0 : (i == 0) = false := beq_eq_false_iff_ne.2 (by omega)
      go_wp2
      go_ret
      exact ⟨ret_bool (unhide hr).symm, B2⟩
  · have hw' : wholeB f n = false := by simpa using hw
    have hr := hide (show aloneB f n i = false by unfold aloneB; rw [hw']; rfl)
    rw [hw']
    clear hw hw'
    go_wp2
    go_ret
    exact ⟨ret_bool (unhide hr).symm, B2⟩
end Go.Proofs.YtjjfdkdneibjbaaGreatDoor
/- Walk of package span: spans that lie within the volume. -/
namespace Go.Proofs.YtjjfdkdneibjbaaGreatDoor
open Go.RowKit

/-- Two results, the first one lies in a block. -/
theorem results_row_tmp {P : Program} {fn : Func} {p u : Tmp} {ty : TypeId} (h : fn.results = #[.cell p ty, .tmp u]) (tmps : Array Value) (w : World) (g : Nat) (t : TypeId) (cs : Array Value) (fr : Nat × Nat) (d : TypeDesc)
    (hp : tmps.getD p undef = .pointer (some ⟨g, 0, none⟩)) (hg : w.heap[g]? = some (.cells cs t fr))
    (hu : P.underlying ty = some d) (hd : (match d with | .struct _ | .array _ _ => true | _ => false) = true) (hi : (P.info? ty).map (·.size) = some cs.size) :
    (results fn tmps).run P w = .ok (.tuple #[.agg cs, tmps.getD u undef]) w := by
  have hp' : tmps[p]?.getD undef = .pointer (some ⟨g, 0, none⟩) := by simpa using hp
  rw [results_cell_tmp h]
  simp [hp', asAddr, run_loadVar_row w g t ty cs fr d hg hu hd hi, Result.andThen]
theorem Tryz.infoSpan : (Tryz.prog.info? 59).map (·.size) = some 2 := by kernel_rfl
theorem Tryz.infoExt3 : (Tryz.prog.info? 107).map (·.size) = some 3 := by kernel_rfl
theorem heap_new (w : World) (o : Obj) : (w.alloc o).heap[w.heap.size]? = some o := by
  show (w.heap.push o)[w.heap.size]? = some o
  simp
def WhS (f n : Int) : Prop := 0 ≤ f ∧ 1 ≤ n ∧ f + n ≤ 64
set_option maxHeartbeats 1000000 in
theorem whole_sp (f n : Int) (w : World) (h : WhS f n) : Calls Tryz.prog 146 #[.agg #[.int .i64 f, .int .i64 n]] w fun e w' => e = .returned (.bool true) ∧ Below w.heap.size w w' := by
  have B1 : Below w.heap.size w (w.alloc (.cells #[.int .i64 f, .int .i64 n] 59)) := (Below.refl _ _).alloc (Nat.le_refl _) _
  obtain ⟨h1, h2, h3⟩ := h
  have h4 : f ≤ 64 := by omega
  have h5 : n ≤ 64 - f := by omega
  go_enter Tryz.func146, Tryz.ntmps146
  go_wp2
  go_ret
  exact ⟨rfl, B1⟩
/-- A call whose parameter of two cells lies in a block of its own. -/
theorem box2 (w : World) (f n : Int) (T : Nat) : ∃ w1, w1 = w.alloc (.cells #[.int .i64 f, .int .i64 n] T) ∧ Below w.heap.size w w1 ∧ w.heap.size < w1.heap.size ∧ w1.cell? ⟨w.heap.size, 0, none⟩ = some (.int .i64 f) ∧ w1.cell? ⟨w.heap.size, 1, none⟩ = some (.int .i64 n) :=
  ⟨_, rfl, (Below.refl _ _).alloc (Nat.le_refl _) _, by simp, World.cell?_alloc_at _ _ _ _ rfl, World.cell?_alloc_at _ _ _ _ rfl⟩
theorem box3 (w : World) (f n i : Int) (T : Nat) : ∃ w1, w1 = w.alloc (.cells #[.int .i64 f, .int .i64 n, .int .i64 i] T) ∧ Below w.heap.size w w1 ∧ w.heap.size < w1.heap.size ∧ w1.cell? ⟨w.heap.size, 0, none⟩ = some (.int .i64 f) ∧ w1.cell? ⟨w.heap.size, 1, none⟩ = some (.int .i64 n) ∧ w1.cell? ⟨w.heap.size, 2, none⟩ = some (.int .i64 i) :=
  ⟨_, rfl, (Below.refl _ _).alloc (Nat.le_refl _) _, by simp, World.cell?_alloc_at _ _ _ _ rfl, World.cell?_alloc_at _ _ _ _ rfl, World.cell?_alloc_at _ _ _ _ rfl⟩
set_option maxHeartbeats 1000000 in
theorem end_sp (f n : Int) (w : World) (h : WhS f n) : Calls Tryz.prog 162 #[.agg #[.int .i64 f, .int .i64 n]] w fun e w' => e = .returned (.int .i64 (f + n)) ∧ Below w.heap.size w w' := by
  obtain ⟨w1, hw1, B1, s1, c0, c1⟩ := box2 w f n 59
  obtain ⟨h1, h2, h3⟩ := h
  go_enter Tryz.func162, Tryz.ntmps162
  go_wp2_with fail
  rw [← hw1]
  clear hw1
  refine (whole_sp f n w1 ⟨h1, h2, h3⟩).mono ?_
  rintro e w2 ⟨rfl, HB2⟩
  have d0 := ((bcell HB2).1 _ 0 s1).trans c0
  have d1 := ((bcell HB2).1 _ 1 s1).trans c1
  have B2 : Below w.heap.size w w2 := B1.trans (HB2.mono (by omega))
  clear HB2 c0 c1
  go_wp2
  go_ret
  exact ⟨rfl, B2⟩
set_option maxHeartbeats 1000000 in
theorem valid_sp (f n : Int) (w : World) (h : WhS f n) : Calls Tryz.prog 82 #[.agg #[.int .i64 f, .int .i64 n], .int .i64 64] w fun e w' => e = .returned (.bool true) ∧ Below w.heap.size w w' := by
  obtain ⟨w1, hw1, B1, s1, c0, c1⟩ := box2 w f n 59
  obtain ⟨h1, h2, h3⟩ := h
  go_enter Tryz.func82, Tryz.ntmps82
  go_wp2_with fail
  rw [← hw1]
  clear hw1
  refine (whole_sp f n w1 ⟨h1, h2, h3⟩).mono ?_
  rintro e w2 ⟨rfl, HB2⟩
  have d0 := ((bcell HB2).1 _ 0 s1).trans c0
  have d1 := ((bcell HB2).1 _ 1 s1).trans c1
  have B2 : Below w.heap.size w w2 := B1.trans (HB2.mono (by omega))
  clear HB2 c0 c1
  go_wp2
  go_ret
  exact ⟨rfl, B2⟩
set_option maxHeartbeats 1000000 in
theorem of_no (f t : Int) (w : World) (h : t ≤ f) : Calls Tryz.prog 123 #[.int .i64 f, .int .i64 t] w fun e w' => e = .returned (.tuple #[.agg #[.int .i64 0, .int .i64 0], .bool false]) ∧ Below w.heap.size w w' := by
  go_enter Tryz.func123, Tryz.ntmps123
  go_wp2_with fail
  refine bodyPost_ret (results_row_tmp Tryz.results123 _ _ w.heap.size 59 _ (0, 0) _ rfl (heap_new w _) Tryz.underlying59 rfl Tryz.infoSpan) rfl ?_
  refine ⟨rfl, ?_⟩
  exact (Below.refl _ _).alloc (Nat.le_refl _) _
set_option maxHeartbeats 1000000 in
theorem of_yes (f t : Int) (w : World) (h0 : 0 ≤ f) (h : f < t) (h1 : t ≤ 64) : Calls Tryz.prog 123 #[.int .i64 f, .int .i64 t] w fun e w' => e = .returned (.tuple #[.agg #[.int .i64 f, .int .i64 (t - f)], .bool true]) ∧ Below w.heap.size w w' := by
  have h2 : ¬ t ≤ f := by omega
  go_enter Tryz.func123, Tryz.ntmps123
  go_wp2_with fail
  refine bodyPost_ret (results_row_tmp Tryz.results123 _ _ w.heap.size 59 _ (0, 0) _ rfl (heap_new w _) Tryz.underlying59 rfl Tryz.infoSpan) rfl ?_
  refine ⟨rfl, ?_⟩
  exact (Below.refl _ _).alloc (Nat.le_refl _) _
theorem hal (w : World) (o : Obj) : (w.alloc o).heap.size = w.heap.size + 1 := by show (w.heap.push o).size = _; simp
theorem alloc_cell {w : World} {b i : Nat} {u : Value} {o : Obj} (h : w.cell? ⟨b, i, none⟩ = some u) : (w.alloc o).cell? ⟨b, i, none⟩ = some u := (World.cell?_alloc_lt _ _ _ (World.block_lt_of_cell? w _ h)).trans h
theorem box22 (w : World) (f n g m : Int) (T : Nat) : ∃ w1, w1 = (w.alloc (.cells #[.int .i64 f, .int .i64 n] T)).alloc (.cells #[.int .i64 g, .int .i64 m] T) ∧ Below w.heap.size w w1 ∧ w1.heap.size = w.heap.size + 2 ∧
    w1.cell? ⟨w.heap.size, 0, none⟩ = some (.int .i64 f) ∧ w1.cell? ⟨w.heap.size, 1, none⟩ = some (.int .i64 n) ∧ w1.cell? ⟨w.heap.size + 1, 0, none⟩ = some (.int .i64 g) ∧ w1.cell? ⟨w.heap.size + 1, 1, none⟩ = some (.int .i64 m) := by
  have e := hal w (.cells #[.int .i64 f, .int .i64 n] T)
  refine ⟨_, rfl, ((Below.refl _ _).alloc (Nat.le_refl _) _).alloc (by omega) _, by rw [hal, hal], ?_, ?_, ?_, ?_⟩
  · exact alloc_cell (World.cell?_alloc_at _ _ _ _ rfl)
  · exact alloc_cell (World.cell?_alloc_at _ _ _ _ rfl)
  · rw [← e]; exact World.cell?_alloc_at _ _ _ _ rfl
  · rw [← e]; exact World.cell?_alloc_at _ _ _ _ rfl
theorem box222 (w : World) (f n g m : Int) (T : Nat) : ∃ w1, w1 = ((w.alloc (.cells #[.int .i64 f, .int .i64 n] T)).alloc (.cells #[.int .i64 g, .int .i64 m] T)).alloc (.cells #[.int .i64 0, .int .i64 0] T) ∧ Below w.heap.size w w1 ∧ w1.heap.size = w.heap.size + 3 ∧
    w1.cell? ⟨w.heap.size, 0, none⟩ = some (.int .i64 f) ∧ w1.cell? ⟨w.heap.size, 1, none⟩ = some (.int .i64 n) ∧ w1.cell? ⟨w.heap.size + 1, 0, none⟩ = some (.int .i64 g) ∧ w1.cell? ⟨w.heap.size + 1, 1, none⟩ = some (.int .i64 m) ∧
    w1.heap[w.heap.size + 2]? = some (.cells #[.int .i64 0, .int .i64 0] T) := by
  obtain ⟨w1, hw1, B1, s1, c0, c1, d0, d1⟩ := box22 w f n g m T
  rw [← hw1]
  refine ⟨_, rfl, B1.alloc (by omega) _, by rw [hal]; omega, ?_, ?_, ?_, ?_, ?_⟩
  · exact alloc_cell c0
  · exact alloc_cell c1
  · exact alloc_cell d0
  · exact alloc_cell d1
  · rw [← s1]; exact heap_new _ _
theorem cell_of_heap {W : World} {b i t : Nat} {cs : Array Value} {fr : Nat × Nat} {u : Value} (h : W.heap[b]? = some (.cells cs t fr)) (hu : cs[i]? = some u) : W.cell? ⟨b, i, none⟩ = some u := by simp [World.cell?, h, hu]
theorem froz_of_heap {W : World} {b i t : Nat} {cs : Array Value} (h : W.heap[b]? = some (.cells cs t (0, 0))) (hi : i < 2) : W.frozen? ⟨b, i, none⟩ = false := by simp [World.frozen?, h]
/-- Two boxes and a result of none. -/
def Two (w W : World) (f n g m : Int) : Prop := Below w.heap.size w W ∧ w.heap.size + 3 ≤ W.heap.size ∧ W.cell? ⟨w.heap.size, 0, none⟩ = some (.int .i64 f) ∧ W.cell? ⟨w.heap.size, 1, none⟩ = some (.int .i64 n) ∧ W.cell? ⟨w.heap.size + 1, 0, none⟩ = some (.int .i64 g) ∧ W.cell? ⟨w.heap.size + 1, 1, none⟩ = some (.int .i64 m) ∧ W.cell? ⟨w.heap.size + 2, 0, none⟩ = some (.int .i64 0) ∧ W.cell? ⟨w.heap.size + 2, 1, none⟩ = some (.int .i64 0) ∧ W.frozen? ⟨w.heap.size + 2, 0, none⟩ = false ∧ W.frozen? ⟨w.heap.size + 2, 1, none⟩ = false
theorem Two.below {w W W' : World} {f n g m : Int} (h : Two w W f n g m) (hb : Below W.heap.size W W') : Two w W' f n g m := by
  obtain ⟨b, s, c0, c1, c2, c3, c4, c5, z0, z1⟩ := h
  have := hb.size
  exact ⟨b.trans (hb.mono (by omega)), by omega, ((bcell hb).1 _ 0 (by omega)).trans c0, ((bcell hb).1 _ 1 (by omega)).trans c1, ((bcell hb).1 _ 0 (by omega)).trans c2, ((bcell hb).1 _ 1 (by omega)).trans c3, ((bcell hb).1 _ 0 (by omega)).trans c4, ((bcell hb).1 _ 1 (by omega)).trans c5, (World.frozen?_of_block (a := ⟨_, 0, none⟩) (hb.block (w.heap.size + 2) (by omega))).trans z0, (World.frozen?_of_block (a := ⟨_, 1, none⟩) (hb.block (w.heap.size + 2) (by omega))).trans z1⟩
theorem Two.set {w W : World} {f n g m : Int} (h : Two w W f n g m) : Two w ((W.setCell ⟨w.heap.size + 1 + 1, 0, none⟩ (.int .i64 0)).setCell ⟨w.heap.size + 1 + 1, 1, none⟩ (.int .i64 0)) f n g m := by
  obtain ⟨b, s, c0, c1, c2, c3, c4, c5, z0, z1⟩ := h
  have n0 : ∀ i, w.heap.size + 1 + 1 ≠ (⟨w.heap.size, i, none⟩ : Addr).block := fun i => by show _ ≠ w.heap.size; omega
  have n1 : ∀ i, w.heap.size + 1 + 1 ≠ (⟨w.heap.size + 1, i, none⟩ : Addr).block := fun i => by show _ ≠ w.heap.size + 1; omega
  refine ⟨(b.setCell (by show w.heap.size ≤ w.heap.size + 1 + 1; omega) _).setCell (by show w.heap.size ≤ w.heap.size + 1 + 1; omega) _, by simpa [World.setCell] using s, ?_, ?_, ?_, ?_, ?_, ?_, ?_, ?_⟩
  · rw [World.cell?_setCell_far _ _ _ _ (n0 0), World.cell?_setCell_far _ _ _ _ (n0 0)]; exact c0
  · rw [World.cell?_setCell_far _ _ _ _ (n0 1), World.cell?_setCell_far _ _ _ _ (n0 1)]; exact c1
  · rw [World.cell?_setCell_far _ _ _ _ (n1 0), World.cell?_setCell_far _ _ _ _ (n1 0)]; exact c2
  · rw [World.cell?_setCell_far _ _ _ _ (n1 1), World.cell?_setCell_far _ _ _ _ (n1 1)]; exact c3
  · exact (World.cell?_setCell_other _ ⟨w.heap.size + 1 + 1, 1, none⟩ ⟨w.heap.size + 2, 0, none⟩ _ (by simp)).trans (World.cell?_setCell_same _ _ _ c4)
  · exact World.cell?_setCell_same _ _ _ ((World.cell?_setCell_other _ ⟨w.heap.size + 1 + 1, 0, none⟩ ⟨w.heap.size + 2, 1, none⟩ _ (by simp)).trans c5)
  · rw [World.frozen?_setCell, World.frozen?_setCell]; exact z0
  · rw [World.frozen?_setCell, World.frozen?_setCell]; exact z1
theorem Two.s {w W : World} {f n g m : Int} (h : Two w W f n g m) : W.cell? ⟨w.heap.size, 0, none⟩ = some (.int .i64 f) ∧ W.cell? ⟨w.heap.size, 1, none⟩ = some (.int .i64 n) ∧ W.cell? ⟨w.heap.size + 1, 0, none⟩ = some (.int .i64 g) ∧ W.cell? ⟨w.heap.size + 1, 1, none⟩ = some (.int .i64 m) ∧ W.cell? ⟨w.heap.size + 2, 0, none⟩ = some (.int .i64 0) ∧ W.cell? ⟨w.heap.size + 2, 1, none⟩ = some (.int .i64 0) ∧ W.frozen? ⟨w.heap.size + 2, 0, none⟩ = false ∧ W.frozen? ⟨w.heap.size + 2, 1, none⟩ = false := h.2.2
theorem Two.drew {w W : World} {f n g m : Int} (h : Two w W f n g m) : Two w W.drew f n g m := ⟨h.1.drew, h.2.1, h.2.2⟩
/-- Two spans that do not meet. -/
def Off (f n g m : Int) : Prop := f + n ≤ g ∨ g + m ≤ f
set_option maxHeartbeats 200000 in
set_option maxRecDepth 100000 in
theorem meet_no (f n g m : Int) (w : World) (h : WhS f n) (k : WhS g m) (ho : Off f n g m) : Calls Tryz.prog 211 #[.agg #[.int .i64 f, .int .i64 n], .agg #[.int .i64 g, .int .i64 m]] w fun e w' => e = .returned (.tuple #[.agg #[.int .i64 0, .int .i64 0], .bool false]) ∧ Below w.heap.size w w' := by
  obtain ⟨w1, hw1, B1, s1, c0, c1, d0, d1, r0⟩ := box222 w f n g m 59
  have T : Two w w1 f n g m := ⟨B1, by omega, c0, c1, d0, d1, cell_of_heap r0 rfl, cell_of_heap r0 rfl, froz_of_heap r0 (by decide), froz_of_heap r0 (by decide)⟩
  clear d0 d1 r0 B1 s1
  go_enter Tryz.func211, Tryz.ntmps211
  go_wp2_with fail
  rw [← hw1]
  clear hw1 c0 c1
  have c0 := T.2.2.1
  have c1 := T.2.2.2.1
  go_wp2_with fail
  refine (whole_sp f n w1 h).mono ?_
  rintro e w2 ⟨rfl, HB2⟩
  replace T := T.below HB2
  clear c0 c1 HB2 w1
  have d0 := T.2.2.2.2.1
  have d1 := T.2.2.2.2.2.1
  go_wp2_with fail
  refine (whole_sp g m w2 k).mono ?_
  rintro e w3 ⟨rfl, HB2⟩
  replace T := T.below HB2
  clear d0 d1 HB2 w2
  go_wp2_with fail
  replace T := T.drew
  obtain ⟨h1, h2, h3⟩ := id h
  obtain ⟨h4, h5, h6⟩ := id k
  rcases ho with ho | ho
  · have ho : f + n ≤ g := ho
    have : f < g := by omega
    have : ¬ g ≤ f := by omega
    have : f + n < g + m := by omega
    have : ¬ g + m < f + n := by omega
    go_region_held3 (fun W => W.cell? ⟨w.heap.size, 0, none⟩ = some (.int .i64 f) ∧ W.cell? ⟨w.heap.size, 1, none⟩ = some (.int .i64 n) ∧ W.cell? ⟨w.heap.size + 1, 0, none⟩ = some (.int .i64 g) ∧ W.cell? ⟨w.heap.size + 1, 1, none⟩ = some (.int .i64 m) ∧ W.cell? ⟨w.heap.size + 2, 0, none⟩ = some (.int .i64 0) ∧ W.cell? ⟨w.heap.size + 2, 1, none⟩ = some (.int .i64 0) ∧ W.frozen? ⟨w.heap.size + 2, 0, none⟩ = false ∧ W.frozen? ⟨w.heap.size + 2, 1, none⟩ = false)
      (first | with_reducible exact T.s | with_reducible exact T.set.s)
      ((first
          | (go_at_call 162; refine (end_sp _ _ _ (by assumption)).mono ?_; intro e v hv; obtain ⟨he, HB⟩ := hv; subst he; replace T : Two w v f n g m := T.below HB; clear HB)
          | (go_at_call 123; refine (of_no _ _ _ (by first | assumption | (split <;> omega))).mono ?_; intro e v hv; obtain ⟨he, HB⟩ := hv; subst he; replace T : Two w v f n g m := T.below HB; clear HB)))
    all_goals
      replace T := T.set
      have c4 := T.2.2.2.2.2.2.1
      have c5 := T.2.2.2.2.2.2.2.1
      go_wp2_with fail
      refine bodyPost_ret (v := .tuple #[.agg #[.int .i64 0, .int .i64 0], .bool false]) ?_ rfl ⟨rfl, T.1⟩
      rw [results_cell_tmp rfl]
      go_simp
  · have ho : g + m ≤ f := ho
    have : ¬ f < g := by omega
    have : g ≤ f := by omega
    have : g + m < f + n := by omega
    have : ¬ f + n < g + m := by omega
    go_region_held3 (fun W => W.cell? ⟨w.heap.size, 0, none⟩ = some (.int .i64 f) ∧ W.cell? ⟨w.heap.size, 1, none⟩ = some (.int .i64 n) ∧ W.cell? ⟨w.heap.size + 1, 0, none⟩ = some (.int .i64 g) ∧ W.cell? ⟨w.heap.size + 1, 1, none⟩ = some (.int .i64 m) ∧ W.cell? ⟨w.heap.size + 2, 0, none⟩ = some (.int .i64 0) ∧ W.cell? ⟨w.heap.size + 2, 1, none⟩ = some (.int .i64 0) ∧ W.frozen? ⟨w.heap.size + 2, 0, none⟩ = false ∧ W.frozen? ⟨w.heap.size + 2, 1, none⟩ = false)
      (first | with_reducible exact T.s | with_reducible exact T.set.s)
      ((first
          | (go_at_call 162; refine (end_sp _ _ _ (by assumption)).mono ?_; intro e v hv; obtain ⟨he, HB⟩ := hv; subst he; replace T : Two w v f n g m := T.below HB; clear HB)
          | (go_at_call 123; refine (of_no _ _ _ (by first | assumption | (split <;> omega))).mono ?_; intro e v hv; obtain ⟨he, HB⟩ := hv; subst he; replace T : Two w v f n g m := T.below HB; clear HB)))
    all_goals
      replace T := T.set
      have c4 := T.2.2.2.2.2.2.1
      have c5 := T.2.2.2.2.2.2.2.1
      go_wp2_with fail
      refine bodyPost_ret (v := .tuple #[.agg #[.int .i64 0, .int .i64 0], .bool false]) ?_ rfl ⟨rfl, T.1⟩
      rw [results_cell_tmp rfl]
      go_simp
end Go.Proofs.YtjjfdkdneibjbaaGreatDoor
