/- Arrays of 64 numbers: a block that holds one; the map that says nothing. -/
import Derived.Test.YtdpbjigdihajjaaDoorIn
import Derived.Test.YtdpbjigdihajjaaDoorAppend
import Derived.Deep.MidRow
namespace Go.Proofs.YtdpbjigdihajjaaDoor
open Go.RowKit

/-- The cells of so many numbers. -/
def numCells (L : List Int) : List Value := L.map (Value.int .i64)
/-- An array's value. -/
def arrV (L : List Int) : Value := .agg (numCells L).toArray
theorem numCells_len (L : List Int) : (numCells L).length = L.length := by simp [numCells]
theorem numCells_one (L : List Int) : ∀ v ∈ numCells L, v.oneCell' = true := by
  intro v hv
  obtain ⟨x, _, rfl⟩ := List.mem_map.1 hv
  rfl
/-- Block b is an array of numbers. -/
def Arr (w : World) (b : Nat) (t : TypeId) (L : List Int) : Prop := w.heap[b]? = some (.cells (numCells L).toArray t)
variable {w w' : World} {b t : Nat} {L : List Int}
theorem Arr.blk (h : Arr w b t L) : w.heap[b]? = some (.cells (numCells L).toArray t) := h
theorem Arr.lt (h : Arr w b t L) : b < w.heap.size := (Array.getElem?_eq_some_iff.1 h).1
theorem Arr.cell (h : Arr w b t L) {k : Nat} (hk : k < L.length) : w.cell? ⟨b, k, none⟩ = some (.int .i64 L[k]) := by
  simp [World.cell?, h.blk, numCells, hk]
theorem Arr.frozen (h : Arr w b t L) (k : Nat) : w.frozen? ⟨b, k, none⟩ = false := by
  simp [World.frozen?, h.blk]
theorem Arr.kept (h : Arr w b t L) (hb : w'.heap[b]? = w.heap[b]?) : Arr w' b t L := hb.trans h
theorem Arr.below (h : Arr w b t L) (hb : Below w.heap.size w w') : Arr w' b t L := h.kept (hb.block b h.lt)
theorem Arr.range (h : Arr w b t L) : w.rangeAt b 0 (numCells L) := fun j v hv => by
  rw [Nat.zero_add]
  simp [World.cell?, h.blk, hv]
theorem Arr.there (h : Arr w b t L) {n : Nat} (hn : n = L.length) : w.there b 0 n := fun j hj => by
  rw [Nat.zero_add, h.cell (by omega), h.frozen]
  exact ⟨rfl, rfl⟩
theorem Arr.set (h : Arr w b t L) (k : Nat) (x : Int) : Arr (w.setCell ⟨b, k, none⟩ (.int .i64 x)) b t (L.set k x) := by
  show (w.setCell ⟨b, k, none⟩ (.int .i64 x)).heap[b]? = _
  simp [World.setCell, Array.getElem?_modify, h.blk, numCells, List.map_set]
theorem setCells_block (b : Nat) (t : TypeId) (fr : Nat × Nat) : ∀ (vs : List Value) (pre : List Value) (old : List Value) (w : World), old.length = vs.length → w.heap[b]? = some (.cells (pre ++ old).toArray t fr) → (w.setCells b pre.length vs).heap[b]? = some (.cells (pre ++ vs).toArray t fr)
  | [], pre, old, _, h1, h2 => by
    have : old = [] := List.eq_nil_of_length_eq_zero h1
    subst this
    exact h2
  | v :: vs, pre, old, w, h1, h2 => by
    obtain ⟨x, old, rfl⟩ : ∃ x r, old = x :: r := by
      cases old with
      | nil => simp at h1
      | cons x r => exact ⟨x, r, rfl⟩
    have hl : old.length = vs.length := by simpa using h1
    have h3 : (w.setCell ⟨b, pre.length, none⟩ v).heap[b]? = some (.cells ((pre ++ [v]) ++ old).toArray t fr) := by
      simp [World.setCell, Array.getElem?_modify, h2]
    have := setCells_block b t fr vs (pre ++ [v]) old _ hl h3
    rw [List.length_append, List.length_singleton] at this
    show ((w.setCell ⟨b, pre.length, none⟩ v).setCells b (pre.length + 1) vs).heap[b]? = _
    rw [this]
    simp
theorem setCells_other (b : Nat) : ∀ (vs : List Value) (o : Nat) (w : World) (k : Nat), k ≠ b → (w.setCells b o vs).heap[k]? = w.heap[k]?
  | [], _, _, _, _ => rfl
  | v :: vs, o, w, k, h => (setCells_other b vs (o + 1) _ k h).trans (Below.heap_setCell w ⟨b, o, none⟩ v k h)
theorem below_setCells {B b : Nat} {a : World} (hb : B ≤ b) : ∀ (vs : List Value) (o : Nat) (w : World), Below B a w → Below B a (w.setCells b o vs)
  | [], _, _, h => h
  | v :: vs, o, _, h => below_setCells hb vs (o + 1) _ (h.setCell (p := ⟨b, o, none⟩) hb v)
theorem size_setCells (b : Nat) : ∀ (vs : List Value) (o : Nat) (w : World), (w.setCells b o vs).heap.size = w.heap.size
  | [], _, _ => rfl
  | v :: vs, o, w => (size_setCells b vs (o + 1) _).trans (by simp [World.setCell])
theorem Arr.store (h : Arr w b t L) {M : List Int} (hn : M.length = L.length) : Arr (w.setCells b 0 (numCells M)) b t M :=
  setCells_block b t (0, 0) (numCells M) [] (numCells L) w (by rw [numCells_len, numCells_len, hn]) h
theorem Arr.alloc (w : World) (t : TypeId) (L : List Int) : Arr (w.alloc (.cells (numCells L).toArray t)) w.heap.size t L := by
  show (w.heap.push _)[w.heap.size]? = _
  simp
theorem Tryd.infoMap : (Tryd.prog.info? 83).map (·.size) = some 64 := by kernel_rfl
/-- The map that says nothing. -/
def noneL (k : Nat) : List Int := List.replicate k (-1) ++ List.replicate (64 - k) 0
theorem noneL_len {k : Nat} (h : k ≤ 64) : (noneL k).length = 64 := by simp [noneL]; omega
theorem noneL_at {k i : Nat} (hk : k ≤ 64) : (noneL k)[i]? = if i < k then some (-1) else if i < 64 then some 0 else none := by
  unfold noneL
  rw [List.getElem?_append]
  simp only [List.length_replicate, List.getElem?_replicate]
  by_cases h1 : i < k
  · rw [if_pos h1, if_pos h1, if_pos h1]
  · rw [if_neg h1, if_neg h1]
    by_cases h2 : i < 64
    · rw [if_pos h2, if_pos (by omega)]
    · rw [if_neg h2, if_neg (by omega)]
theorem noneL_succ {k : Nat} (h : k < 64) : noneL (k + 1) = (noneL k).set k (-1) := by
  apply List.ext_getElem?
  intro i
  rw [List.getElem?_set, noneL_at (by omega), noneL_at (by omega), noneL_len (by omega)]
  by_cases h1 : k = i
  · subst h1
    rw [if_pos (by omega), if_pos rfl, if_pos h]
  · rw [if_neg h1]
    by_cases h2 : i < k
    · rw [if_pos (by omega), if_pos h2]
    · rw [if_neg (by omega), if_neg h2]
/-- A function whose result lies in a block: its value. -/
theorem results_arr {fn : Func} {tmps : Array Value} {P : Program} {w : World} {r b n e : Nat} {ty : TypeId} {L : List Int} (h : fn.results = #[.cell r ty]) (hr : tmps.getD r undef = .pointer (some ⟨b, 0, none⟩)) (ha : Arr w b ty L) (hu : P.underlying ty = some (.array n e)) (hi : (P.info? ty).map (·.size) = some L.length) :
    (results fn tmps).run P w = .ok (arrV L) w := by
  have := run_loadVar_mid (P := P) w b 0 ty (numCells L) (.array n e) ha.range hu rfl (by rw [hi, numCells_len])
  rw [Array.getD_eq_getD_getElem?] at hr
  simp [results, h, hr, asAddr, this, arrV]
set_option maxHeartbeats 2000000 in
set_option maxRecDepth 100000 in
theorem none_any (w : World) : Calls Tryd.prog 63 #[] w fun e w' => e = .returned (arrV (noneL 64)) ∧ Below w.heap.size w w' := by
  go_enter Tryd.func63, Tryd.ntmps63
  go_wp2
  obtain ⟨w1, hw1⟩ : ∃ w1, w1 = w.alloc (.cells (numCells (noneL 0)).toArray 83) := ⟨_, rfl⟩
  obtain ⟨w2, hw2⟩ : ∃ w2, w2 = w1.alloc (.cells (numCells (noneL 0)).toArray 83) := ⟨_, rfl⟩
  have B1 : Below w.heap.size w w1 := by rw [hw1]; exact (Below.refl _ _).alloc (Nat.le_refl _) _
  have s1 : w1.heap.size = w.heap.size + 1 := by rw [hw1]; show (w.heap.push _).size = _; simp
  have a0 : Arr w1 w.heap.size 83 (noneL 0) := by rw [hw1]; exact Arr.alloc w _ _
  have B2 : Below w.heap.size w w2 := by rw [hw2]; exact B1.alloc (by omega) _
  have a1 : Arr w2 w.heap.size 83 (noneL 0) := by rw [hw2]; exact a0.kept (Below.heap_alloc w1 _ _ (by omega))
  have a2 : Arr w2 (w.heap.size + 1) 83 (noneL 0) := by rw [hw2, ← s1]; exact Arr.alloc w1 _ _
  change Code.wp _ _ _ _ ((w.alloc (.cells (numCells (noneL 0)).toArray 83)).alloc (.cells (numCells (noneL 0)).toArray 83))
  rw [← hw1, ← hw2]
  clear hw1 hw2
  go_loopw [2] (fun j wr => ∃ k : Nat, k ≤ 64 ∧ j = .int .i64 k ∧ Arr wr w.heap.size 83 (noneL 0) ∧ Arr wr (w.heap.size + 1) 83 (noneL k) ∧ Below w.heap.size w wr) (fun j _ => 64 - (intOf j).toNat)
  case atStart => exact ⟨0, by omega, rfl, a1, a2, B2⟩
  case round =>
    obtain ⟨k, hk, rfl, h1, h2, HB⟩ := hrel
    by_cases hlt : k < 64
    · have hl : k < (noneL k).length := by rw [noneL_len hk]; exact hlt
      have c1 := h2.cell hl
      obtain ⟨x, hx⟩ : ∃ x, wr.cell? ⟨w.heap.size + 1, k, none⟩ = some (.int .i64 x) := ⟨_, c1⟩
      have f1 := h2.frozen k
      have g1 := hide (h1.kept (w' := wr.setCell ⟨w.heap.size + 1, k, none⟩ (.int .i64 (-1))) (Below.heap_setCell wr ⟨w.heap.size + 1, k, none⟩ _ _ (by simp)))
      have g2 := hide (h2.set k (-1))
      rw [← noneL_succ hlt] at g2
      have B3 : Below w.heap.size w (wr.setCell ⟨w.heap.size + 1, k, none⟩ (.int .i64 (-1))) := HB.setCell (p := ⟨w.heap.size + 1, k, none⟩) (by simp) _
      clear h1 h2 c1 hl
      go_wp2
      go_roundw
      case rel => exact ⟨k + 1, by omega, by go_num, unhide g1, unhide g2, B3⟩
      case measure => simp [intOf]; omega
    · have hk64 : k = 64 := by omega
      subst hk64
      have H1 := hide h1
      have H2 := hide h2
      clear h1 h2
      go_wp2_with (first | (refine wpList_load_mid rfl _ _ rfl (w.heap.size + 1) 0 rfl (numCells (noneL 64)) _ (unhide H2).range Tryd.underlying83 rfl (by rw [Tryd.infoMap, numCells_len, noneL_len (by omega)]) ?_) | (refine wpList_store_mid rfl _ _ _ rfl w.heap.size 0 (numCells (noneL 64)).toArray rfl rfl ((unhide H1).there (by simp [numCells, noneL])) (by rw [Tryd.infoMap]; simp [numCells, noneL]) (all_oneCell_toArray (numCells_one _)) ?_))
      refine bodyPost_ret (v := arrV (noneL 64)) (results_arr Tryd.results63 rfl ((unhide H1).store (by simp [noneL])) Tryd.underlying83 (by rw [Tryd.infoMap, noneL_len (by omega)])) rfl ⟨rfl, below_setCells (Nat.le_refl _) _ _ _ HB⟩
end Go.Proofs.YtdpbjigdihajjaaDoor
