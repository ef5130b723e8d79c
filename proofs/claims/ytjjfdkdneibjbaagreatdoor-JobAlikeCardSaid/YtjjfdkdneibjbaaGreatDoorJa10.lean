/- Joined texts: ArrA, ArrB, ArrC, BArr, Said. -/
import Derived.Test.YtjjfdkdneibjbaaGreatDoorJa04
import Derived.Test.YtjjfdkdneibjbaaGreatDoorJa09
import Derived.Deep.MidRow
/- Arrays of 64 numbers: a block that holds one; the map that says nothing. -/
namespace Go.Proofs.YtjjfdkdneibjbaaGreatDoor
open Go.RowKit

/-- The cells of so many numbers. -/
def numCells (L : List Int) : List Value := L.map (Value.int .i64)
/-- An array's value. -/
def arrV (L : List Int) : Value := .agg (numCells L).toArray
theorem numCells_len (L : List Int) : (numCells L).length = L.length := by simp [numCells]
theorem numCells_one (L : List Int) : ∀ v ∈ numCells L, v.oneCell' = true := by
  intro v hv
  obtain ⟨x, _, rfl⟩ := List.mem_map.1 hv
  rfl
/-- Block b is an array of numbers. -/
def Arr (w : World) (b : Nat) (t : TypeId) (L : List Int) : Prop := w.heap[b]? = some (.cells (numCells L).toArray t)
variable {w w' : World} {b t : Nat} {L : List Int}
theorem Arr.blk (h : Arr w b t L) : w.heap[b]? = some (.cells (numCells L).toArray t) := h
theorem Arr.lt (h : Arr w b t L) : b < w.heap.size := (Array.getElem?_eq_some_iff.1 h).1
theorem Arr.cell (h : Arr w b t L) {k : Nat} (hk : k < L.length) : w.cell? ⟨b, k, none⟩ = some (.int .i64 L[k]) := by
  simp [World.cell?, h.blk, numCells, hk]
theorem Arr.frozen (h : Arr w b t L) (k : Nat) : w.frozen? ⟨b, k, none⟩ = false := by
  simp [World.frozen?, h.blk]
theorem Arr.kept (h : Arr w b t L) (hb : w'.heap[b]? = w.heap[b]?) : Arr w' b t L := hb.trans h
theorem Arr.below (h : Arr w b t L) (hb : Below w.heap.size w w') : Arr w' b t L := h.kept (hb.block b h.lt)
theorem Arr.range (h : Arr w b t L) : w.rangeAt b 0 (numCells L) := fun j v hv => by
  rw [Nat.zero_add]
  simp [World.cell?, h.blk, hv]
theorem Arr.there (h : Arr w b t L) {n : Nat} (hn : n = L.length) : w.there b 0 n := fun j hj => by
  rw [Nat.zero_add, h.cell (by omega), h.frozen]
  exact ⟨rfl, rfl⟩
theorem Arr.set (h : Arr w b t L) (k : Nat) (x : Int) : Arr (w.setCell ⟨b, k, none⟩ (.int .i64 x)) b t (L.set k x) := by
  show (w.setCell ⟨b, k, none⟩ (.int .i64 x)).heap[b]? = _
  simp [World.setCell, Array.getElem?_modify, h.blk, numCells, List.map_set]
theorem setCells_block (b : Nat) (t : TypeId) (fr : Nat × Nat) : ∀ (vs : List Value) (pre : List Value) (old : List Value) (w : World), old.length = vs.length → w.heap[b]? = some (.cells (pre ++ old).toArray t fr) → (w.setCells b pre.length vs).heap[b]? = some (.cells (pre ++ vs).toArray t fr)
  | [], pre, old, _, h1, h2 => by
    have : old = [] := List.eq_nil_of_length_eq_zero h1
    subst this
    exact h2
  | v :: vs, pre, old, w, h1, h2 => by
    obtain ⟨x, old, rfl⟩ : ∃ x r, old = x :: r := by
      cases old with
      | nil => simp at h1
      | cons x r => exact ⟨x, r, rfl⟩
    have hl : old.length = vs.length := by simpa using h1
    have h3 : (w.setCell ⟨b, pre.length, none⟩ v).heap[b]? = some (.cells ((pre ++ [v]) ++ old).toArray t fr) := by
      simp [World.setCell, Array.getElem?_modify, h2]
    have := setCells_block b t fr vs (pre ++ [v]) old _ hl h3
    rw [List.length_append, List.length_singleton] at this
    show ((w.setCell ⟨b, pre.length, none⟩ v).setCells b (pre.length + 1) vs).heap[b]? = _
    rw [this]
    simp
theorem setCells_other (b : Nat) : ∀ (vs : List Value) (o : Nat) (w : World) (k : Nat), k ≠ b → (w.setCells b o vs).heap[k]? = w.heap[k]?
  | [], _, _, _, _ => rfl
  | v :: vs, o, w, k, h => (setCells_other b vs (o + 1) _ k h).trans (Below.heap_setCell w ⟨b, o, none⟩ v k h)
theorem below_setCells {B b : Nat} {a : World} (hb : B ≤ b) : ∀ (vs : List Value) (o : Nat) (w : World), Below B a w → Below B a (w.setCells b o vs)
  | [], _, _, h => h
  | v :: vs, o, _, h => below_setCells hb vs (o + 1) _ (h.setCell (p := ⟨b, o, none⟩) hb v)
theorem size_setCells (b : Nat) : ∀ (vs : List Value) (o : Nat) (w : World), (w.setCells b o vs).heap.size = w.heap.size
  | [], _, _ => rfl
  | v :: vs, o, w => (size_setCells b vs (o + 1) _).trans (by simp [World.setCell])
theorem Arr.store (h : Arr w b t L) {M : List Int} (hn : M.length = L.length) : Arr (w.setCells b 0 (numCells M)) b t M :=
  setCells_block b t (0, 0) (numCells M) [] (numCells L) w (by rw [numCells_len, numCells_len, hn]) h
theorem Arr.alloc (w : World) (t : TypeId) (L : List Int) : Arr (w.alloc (.cells (numCells L).toArray t)) w.heap.size t L := by
  show (w.heap.push _)[w.heap.size]? = _
  simp
theorem Tryz.infoMap : (Tryz.prog.info? 48).map (·.size) = some 64 := by kernel_rfl
/-- The map that says nothing. -/
def noneL (k : Nat) : List Int := List.replicate k (-1) ++ List.replicate (64 - k) 0
theorem noneL_len {k : Nat} (h : k ≤ 64) : (noneL k).length = 64 := by simp [noneL]; omega
theorem noneL_at {k i : Nat} (hk : k ≤ 64) : (noneL k)[i]? = if i < k then some (-1) else if i < 64 then some 0 else none := by
  unfold noneL
  rw [List.getElem?_append]
  simp only [List.length_replicate, List.getElem?_replicate]
  by_cases h1 : i < k
  · rw [if_pos h1, if_pos h1, if_pos h1]
  · rw [if_neg h1, if_neg h1]
    by_cases h2 : i < 64
    · rw [if_pos h2, if_pos (by omega)]
    · rw [if_neg h2, if_neg (by omega)]
theorem noneL_succ {k : Nat} (h : k < 64) : noneL (k + 1) = (noneL k).set k (-1) := by
  apply List.ext_getElem?
  intro i
  rw [List.getElem?_set, noneL_at (by omega), noneL_at (by omega), noneL_len (by omega)]
  by_cases h1 : k = i
  · subst h1
    rw [if_pos (by omega), if_pos rfl, if_pos h]
  · rw [if_neg h1]
    by_cases h2 : i < k
    · rw [if_pos (by omega), if_pos h2]
    · rw [if_neg (by omega), if_neg h2]
/-- A function whose result lies in a block: its value. -/
theorem results_arr {fn : Func} {tmps : Array Value} {P : Program} {w : World} {r b n e : Nat} {ty : TypeId} {L : List Int} (h : fn.results = #[.cell r ty]) (hr : tmps.getD r undef = .pointer (some ⟨b, 0, none⟩)) (ha : Arr w b ty L) (hu : P.underlying ty = some (.array n e)) (hi : (P.info? ty).map (·.size) = some L.length) :
    (results fn tmps).run P w = .ok (arrV L) w := by
  have := run_loadVar_mid (P := P) w b 0 ty (numCells L) (.array n e) ha.range hu rfl (by rw [hi, numCells_len])
  rw [Array.getD_eq_getD_getElem?] at hr
  simp [results, h, hr, asAddr, this, arrV]
set_option maxHeartbeats 2000000 in
set_option maxRecDepth 100000 in
theorem refnone_any (w : World) : Calls Tryz.prog 35 #[] w fun e w' => e = .returned (arrV (noneL 64)) ∧ Below w.heap.size w w' := by
  go_enter Tryz.func35, Tryz.ntmps35
  go_wp2
  obtain ⟨w1, hw1⟩ : ∃ w1, w1 = w.alloc (.cells (numCells (noneL 0)).toArray 48) := ⟨_, rfl⟩
  obtain ⟨w2, hw2⟩ : ∃ w2, w2 = w1.alloc (.cells (numCells (noneL 0)).toArray 48) := ⟨_, rfl⟩
  have B1 : Below w.heap.size w w1 := by rw [hw1]; exact (Below.refl _ _).alloc (Nat.le_refl _) _
  have s1 : w1.heap.size = w.heap.size + 1 := by rw [hw1]; show (w.heap.push _).size = _; simp
  have a0 : Arr w1 w.heap.size 48 (noneL 0) := by rw [hw1]; exact Arr.alloc w _ _
  have B2 : Below w.heap.size w w2 := by rw [hw2]; exact B1.alloc (by omega) _
  have a1 : Arr w2 w.heap.size 48 (noneL 0) := by rw [hw2]; exact a0.kept (Below.heap_alloc w1 _ _ (by omega))
  have a2 : Arr w2 (w.heap.size + 1) 48 (noneL 0) := by rw [hw2, ← s1]; exact Arr.alloc w1 _ _
  change Code.wp _ _ _ _ ((w.alloc (.cells (numCells (noneL 0)).toArray 48)).alloc (.cells (numCells (noneL 0)).toArray 48))
  rw [← hw1, ← hw2]
  clear hw1 hw2
  go_loopw [2] (fun j wr => ∃ k : Nat, k ≤ 64 ∧ j = .int .i64 k ∧ Arr wr w.heap.size 48 (noneL 0) ∧ Arr wr (w.heap.size + 1) 48 (noneL k) ∧ Below w.heap.size w wr) (fun j _ => 64 - (intOf j).toNat)
  case atStart => exact ⟨0, by omega, rfl, a1, a2, B2⟩
  case round =>
    obtain ⟨k, hk, rfl, h1, h2, HB⟩ := hrel
    by_cases hlt : k < 64
    · have hl : k < (noneL k).length := by rw [noneL_len hk]; exact hlt
      have c1 := h2.cell hl
      obtain ⟨x, hx⟩ : ∃ x, wr.cell? ⟨w.heap.size + 1, k, none⟩ = some (.int .i64 x) := ⟨_, c1⟩
      have f1 := h2.frozen k
      have g1 := hide (h1.kept (w' := wr.setCell ⟨w.heap.size + 1, k, none⟩ (.int .i64 (-1))) (Below.heap_setCell wr ⟨w.heap.size + 1, k, none⟩ _ _ (by simp)))
      have g2 := hide (h2.set k (-1))
      rw [← noneL_succ hlt] at g2
      have B3 : Below w.heap.size w (wr.setCell ⟨w.heap.size + 1, k, none⟩ (.int .i64 (-1))) := HB.setCell (p := ⟨w.heap.size + 1, k, none⟩) (by simp) _
      clear h1 h2 c1 hl
      go_wp2
      go_roundw
      case rel => exact ⟨k + 1, by omega, by go_num, unhide g1, unhide g2, B3⟩
      case measure => simp [intOf]; omega
    · have hk64 : k = 64 := by omega
      subst hk64
      have H1 := hide h1
      have H2 := hide h2
      clear h1 h2
      go_wp2_with (first | (refine wpList_load_mid rfl _ _ rfl (w.heap.size + 1) 0 rfl (numCells (noneL 64)) _ (unhide H2).range Tryz.underlying48 rfl (by rw [Tryz.infoMap, numCells_len, noneL_len (by omega)]) ?_) | (refine wpList_store_mid rfl _ _ _ rfl w.heap.size 0 (numCells (noneL 64)).toArray rfl rfl ((unhide H1).there (by simp [numCells, noneL])) (by rw [Tryz.infoMap]; simp [numCells, noneL]) (all_oneCell_toArray (numCells_one _)) ?_))
      refine bodyPost_ret (v := arrV (noneL 64)) (results_arr Tryz.results35 rfl ((unhide H1).store (by simp [noneL])) Tryz.underlying48 (by rw [Tryz.infoMap, noneL_len (by omega)])) rfl ⟨rfl, below_setCells (Nat.le_refl _) _ _ _ HB⟩
end Go.Proofs.YtjjfdkdneibjbaaGreatDoor
/- An extent by itself; a map's blocks are set. -/
namespace Go.Proofs.YtjjfdkdneibjbaaGreatDoor
open Go.RowKit

/-- Is a stretch of blocks within the volume? -/
def wholeB (f n : Int) : Bool := decide (0 ≤ f ∧ f ≤ 64 ∧ 1 ≤ n ∧ n ≤ 64 ∧ f + n ≤ 64)
def aloneB (f n i : Int) : Bool := wholeB f n && decide (0 ≤ i ∧ (i = 0 ∨ (i ≤ 60 ∧ n ≤ 60 ∧ i + n ≤ 61)))
set_option maxHeartbeats 1000000 in
theorem whole_any (f n : Int) (w : World) : Calls Tryz.prog 84 #[.agg #[.int .i64 f, .int .i64 n]] w fun e w' => e = .returned (.bool (wholeB f n)) ∧ Below w.heap.size w w' := by
  have B1 : Below w.heap.size w (w.alloc (.cells #[.int .i64 f, .int .i64 n] 59)) := (Below.refl _ _).alloc (Nat.le_refl _) _
  by_cases hw : 0 ≤ f ∧ f ≤ 64 ∧ 1 ≤ n ∧ n ≤ 64
  · obtain ⟨h1, h2, h3, h4⟩ := hw
    go_enter Tryz.func84, Tryz.ntmps84
    go_wp2
    go_ret
    refine ⟨ret_bool ?_, B1⟩
    unfold wholeB
    rw [decide_eq_decide]
    omega
  · have hb : wholeB f n = false := by
      unfold wholeB
      rw [decide_eq_false_iff_not]
      omega
    rw [hb]
    clear hb
    rcases (show f < 0 ∨ (0 ≤ f ∧ 64 < f) ∨ (0 ≤ f ∧ f ≤ 64 ∧ n < 1) ∨ (0 ≤ f ∧ f ≤ 64 ∧ 1 ≤ n ∧ 64 < n) by omega) with h | ⟨h, h'⟩ | ⟨h, h', h''⟩ | ⟨h, h', h'', h'''⟩
    all_goals
      clear hw
      go_enter Tryz.func84, Tryz.ntmps84
      go_wp2
      go_ret
      first | exact ⟨rfl, B1⟩ | (refine ⟨ret_bool ?_, B1⟩; simp; omega)
set_option maxHeartbeats 2000000 in
theorem alone_any (f n i : Int) (w : World) : Calls Tryz.prog 129 #[.agg #[.int .i64 f, .int .i64 n, .int .i64 i]] w fun e w' => e = .returned (.bool (aloneB f n i)) ∧ Below w.heap.size w w' := by
  obtain ⟨w1, hw1⟩ : ∃ w1, w1 = w.alloc (.cells #[.int .i64 f, .int .i64 n, .int .i64 i] 107) := ⟨_, rfl⟩
  have B1 : Below w.heap.size w w1 := by rw [hw1]; exact (Below.refl _ _).alloc (Nat.le_refl _) _
  have c0 : w1.cell? ⟨w.heap.size, 0, none⟩ = some (.int .i64 f) := by rw [hw1]; exact World.cell?_alloc_at _ _ _ _ rfl
  have c1 : w1.cell? ⟨w.heap.size, 1, none⟩ = some (.int .i64 n) := by rw [hw1]; exact World.cell?_alloc_at _ _ _ _ rfl
  have c2 : w1.cell? ⟨w.heap.size, 2, none⟩ = some (.int .i64 i) := by rw [hw1]; exact World.cell?_alloc_at _ _ _ _ rfl
  have s1 : w.heap.size < w1.heap.size := by rw [hw1]; simp
  go_enter Tryz.func129, Tryz.ntmps129
  go_wp2_with fail
  rw [← hw1]
  clear hw1
  refine (whole_any f n w1).mono ?_
  rintro e w2 ⟨rfl, HB2⟩
  have d0 := ((bcell HB2).1 _ 0 s1).trans c0
  have d1 := ((bcell HB2).1 _ 1 s1).trans c1
  have d2 := ((bcell HB2).1 _ 2 s1).trans c2
  have B2 : Below w.heap.size w w2 := B1.trans (HB2.mono (by omega))
  clear HB2 c0 c1 c2
  by_cases hw : wholeB f n = true
  · have hn : 1 ≤ n ∧ n ≤ 64 := by
      unfold wholeB at hw
      rw [decide_eq_true_iff] at hw
      omega
    obtain ⟨n1, n2⟩ := hn
    rw [hw]
    have Hw := hide hw
    clear hw
    rcases (show i < 0 ∨ i = 0 ∨ (0 < i ∧ 60 < i) ∨ (0 < i ∧ i ≤ 60 ∧ 60 < n) ∨ (0 < i ∧ i ≤ 60 ∧ n ≤ 60) by omega) with h | h | ⟨h, h'⟩ | ⟨h, h', h''⟩ | ⟨h, h', h''⟩
    · have hr := hide (show aloneB f n i = false by unfold aloneB; rw [unhide Hw]; simp; omega)
      go_wp2
      go_ret
      exact ⟨ret_bool (unhide hr).symm, B2⟩
    · subst h
      have hr := hide (show aloneB f n 0 = true by unfold aloneB; rw [unhide Hw]; simp)
      go_wp2
      go_ret
      exact ⟨ret_bool (unhide hr).symm, B2⟩
    · have hr := hide (show aloneB f n i = false by unfold aloneB; rw [unhide Hw]; simp; omega)
      have h0 : (i == 0) = false := beq_eq_false_iff_ne.2 (by omega)
      go_wp2
      go_ret
      exact ⟨ret_bool (unhide hr).symm, B2⟩
    · have hr := hide (show aloneB f n i = false by unfold aloneB; rw [unhide Hw]; simp; omega)
      have h0 : (i == 0) = false := beq_eq_false_iff_ne.2 (by omega)
      go_wp2
      go_ret
      exact ⟨ret_bool (unhide hr).symm, B2⟩
    · have hr := hide (show aloneB f n i = decide (i + n ≤ 61) by unfold aloneB; rw [unhide Hw, Bool.true_and, decide_eq_decide]; omega)
      have h0 : (i == 0) = false := beq_eq_false_iff_ne.2 (by omega)
      go_wp2
      go_ret
      exact ⟨ret_bool (unhide hr).symm, B2⟩
  · have hw' : wholeB f n = false := by simpa using hw
    have hr := hide (show aloneB f n i = false by unfold aloneB; rw [hw']; rfl)
    rw [hw']
    clear hw hw'
    go_wp2
    go_ret
    exact ⟨ret_bool (unhide hr).symm, B2⟩
end Go.Proofs.YtjjfdkdneibjbaaGreatDoor
/- A map's blocks are set: the walk. -/
namespace Go.Proofs.YtjjfdkdneibjbaaGreatDoor
open Go.RowKit

/-- So many of an extent's blocks are set. -/
def setTo (L : List Int) (f : Nat) (i : Int) : Nat → List Int
  | 0 => L
  | k + 1 => (setTo L f i k).set (f + k) (if 0 < i then i + k else 0)
theorem setTo_len (L : List Int) (f : Nat) (i : Int) (k : Nat) : (setTo L f i k).length = L.length := by
  induction k with
  | zero => rfl
  | succ k ih => rw [setTo, List.length_set, ih]
/-- A map with an extent set in it. -/
def setL (L : List Int) (f n i : Int) : List Int := if aloneB f n i = true then setTo L f.toNat i n.toNat else L
theorem setL_len (L : List Int) (f n i : Int) : (setL L f n i).length = L.length := by
  unfold setL; split
  · exact setTo_len _ _ _ _
  · rfl
theorem alone_bd {f n i : Int} (h : aloneB f n i = true) : 0 ≤ f ∧ 1 ≤ n ∧ f + n ≤ 64 ∧ 0 ≤ i ∧ i ≤ 60 := by
  unfold aloneB wholeB at h
  simp at h
  omega
set_option maxHeartbeats 4000000 in
set_option maxRecDepth 100000 in
theorem set_any (L : List Int) (hL : L.length = 64) (f n i : Int) (w : World) : Calls Tryz.prog 64 #[arrV L, .agg #[.int .i64 f, .int .i64 n, .int .i64 i]] w fun e w' => e = .returned (arrV (setL L f n i)) ∧ Below w.heap.size w w' := by
  obtain ⟨w1, hw1⟩ : ∃ w1, w1 = w.alloc (.cells (numCells L).toArray 48) := ⟨_, rfl⟩
  obtain ⟨w2, hw2⟩ : ∃ w2, w2 = w1.alloc (.cells #[.int .i64 f, .int .i64 n, .int .i64 i] 107) := ⟨_, rfl⟩
  have B1 : Below w.heap.size w w1 := by rw [hw1]; exact (Below.refl _ _).alloc (Nat.le_refl _) _
  have s1 : w1.heap.size = w.heap.size + 1 := by rw [hw1]; show (w.heap.push _).size = _; simp
  have s2 : w2.heap.size = w1.heap.size + 1 := by rw [hw2]; show (w1.heap.push _).size = _; simp
  have a1 : Arr w1 w.heap.size 48 L := by rw [hw1]; exact Arr.alloc w _ _
  have B2 : Below w.heap.size w w2 := by rw [hw2]; exact B1.alloc (by omega) _
  have a2 : Arr w2 w.heap.size 48 L := by rw [hw2]; exact a1.kept (Below.heap_alloc w1 _ _ (by omega))
  have c0 : w2.cell? ⟨w.heap.size + 1, 0, none⟩ = some (.int .i64 f) := by rw [hw2, ← s1]; exact World.cell?_alloc_at _ _ _ _ rfl
  have c1 : w2.cell? ⟨w.heap.size + 1, 1, none⟩ = some (.int .i64 n) := by rw [hw2, ← s1]; exact World.cell?_alloc_at _ _ _ _ rfl
  have c2 : w2.cell? ⟨w.heap.size + 1, 2, none⟩ = some (.int .i64 i) := by rw [hw2, ← s1]; exact World.cell?_alloc_at _ _ _ _ rfl
  obtain ⟨w3, hw3⟩ : ∃ w3, w3 = w2.alloc (.cells (numCells (noneL 0)).toArray 48) := ⟨_, rfl⟩
  have B3 : Below w.heap.size w w3 := by rw [hw3]; exact B2.alloc (by omega) _
  have a3 : Arr w3 w.heap.size 48 L := by rw [hw3]; exact a2.kept (Below.heap_alloc w2 _ _ (by omega))
  have a4 : Arr w3 (w.heap.size + 1 + 1) 48 (noneL 0) := by rw [hw3, ← s1, ← s2]; exact Arr.alloc w2 _ _
  have Bx : Below w2.heap.size w2 w3 := by rw [hw3]; exact (Below.refl _ _).alloc (Nat.le_refl _) _
  have e0 := ((bcell Bx).1 (w.heap.size + 1) 0 (by omega)).trans c0
  have e1 := ((bcell Bx).1 (w.heap.size + 1) 1 (by omega)).trans c1
  have e2 := ((bcell Bx).1 (w.heap.size + 1) 2 (by omega)).trans c2
  have s3 : w.heap.size + 3 ≤ w3.heap.size := by rw [hw3]; show _ ≤ (w2.heap.push _).size; simp; omega
  have HA3 := hide a3
  have HA4 := hide a4
  clear a1 a2 a3 a4 c0 c1 c2 Bx B1 B2
  have Hs1 := hide s1
  have Hs2 := hide s2
  clear s1 s2
  by_cases ha : aloneB f n i = true
  · obtain ⟨f0, n1, fn, i0, i60⟩ := alone_bd ha
    obtain ⟨F, rfl⟩ : ∃ F : Nat, f = (F : Int) := ⟨f.toNat, by omega⟩
    obtain ⟨N, rfl⟩ : ∃ N : Nat, n = (N : Int) := ⟨n.toNat, by omega⟩
    have hs : setL L F N i = setTo L F i N := by unfold setL; rw [if_pos ha]; simp
    rw [hs]
    have Ha := hide ha
    clear hs ha
    change Calls _ _ #[.agg (numCells L).toArray, .agg #[.int .i64 F, .int .i64 N, .int .i64 i]] w _
    go_enter Tryz.func64, Tryz.ntmps64
    go_wp2_with fail
    change Code.wp _ _ _ _ (((w.alloc (.cells (numCells L).toArray 48)).alloc (.cells #[.int .i64 F, .int .i64 N, .int .i64 i] 107)).alloc (.cells (numCells (noneL 0)).toArray 48))
    rw [← hw1, ← hw2, ← hw3]
    clear hw1 hw2 hw3
    go_loopw [5] (fun j wr => ∃ k : Nat, k ≤ N ∧ j = .int .i64 k ∧ Arr wr w.heap.size 48 (setTo L F i k) ∧ Arr wr (w.heap.size + 1 + 1) 48 (noneL 0) ∧ wr.cell? ⟨w.heap.size + 1, 0, none⟩ = some (.int .i64 F) ∧ wr.cell? ⟨w.heap.size + 1, 1, none⟩ = some (.int .i64 N) ∧ wr.cell? ⟨w.heap.size + 1, 2, none⟩ = some (.int .i64 i) ∧ Below w.heap.size w wr ∧ w.heap.size + 3 ≤ wr.heap.size) (fun j _ => N - (intOf j).toNat)
    case atStart => exact ⟨0, Nat.zero_le _, rfl, unhide HA3, unhide HA4, e0, e1, e2, B3, s3⟩
    case round =>
      obtain ⟨k, hk, rfl, r1, r2, q0, q1, q2, HB, hsz⟩ := hrel
      have R1 := hide r1
      have R2 := hide r2
      clear r1 r2
      go_wp2_with fail
      refine (alone_any F N i wr).mono ?_
      rintro e w4 ⟨rfl, HB4⟩
      have g3 := hide ((unhide R1).below HB4)
      have g4 := hide ((unhide R2).below HB4)
      have p0 := ((bcell HB4).1 (w.heap.size + 1) 0 (by omega)).trans q0
      have p1 := ((bcell HB4).1 (w.heap.size + 1) 1 (by omega)).trans q1
      have p2 := ((bcell HB4).1 (w.heap.size + 1) 2 (by omega)).trans q2
      have B4 : Below w.heap.size w w4 := HB.trans (HB4.mono (by omega))
      have s4 : w.heap.size + 3 ≤ w4.heap.size := Nat.le_trans hsz HB4.size
      rw [unhide Ha]
      clear HB4 q0 q1 q2
      by_cases hlt : k < N
      · have hfk : F + k < (setTo L F i k).length := by rw [setTo_len, hL]; omega
        obtain ⟨x, hx⟩ : ∃ x, w4.cell? ⟨w.heap.size, F + k, none⟩ = some (.int .i64 x) := ⟨_, (unhide g3).cell hfk⟩
        have f1 := (unhide g3).frozen (F + k)
        have h1 := (unhide g3).set (F + k) 0
        have oth : ∀ (W : World) (v : Value) (q : Nat), q ≠ w.heap.size → (W.setCell ⟨w.heap.size, F + k, none⟩ v).heap[q]? = W.heap[q]? := fun W v q hq => Below.heap_setCell W ⟨w.heap.size, F + k, none⟩ v q hq
        by_cases hip : 0 < i
        · have hset := hide (show setTo L F i (k + 1) = (setTo L F i k).set (F + k) (i + k) by rw [setTo, if_pos hip])
          obtain ⟨w6, hw6⟩ : ∃ W, W = (w4.setCell ⟨w.heap.size, F + k, none⟩ (.int .i64 0)).setCell ⟨w.heap.size, F + k, none⟩ (.int .i64 (i + k)) := ⟨_, rfl⟩
          have o6 : ∀ q, q ≠ w.heap.size → w6.heap[q]? = w4.heap[q]? := by rw [hw6]; exact fun q hq => (oth _ _ q hq).trans (oth w4 _ q hq)
          have k0 := (World.cell?_of_block (a := ⟨w.heap.size + 1, 0, none⟩) (o6 _ (by simp))).trans p0
          have k1 := (World.cell?_of_block (a := ⟨w.heap.size + 1, 1, none⟩) (o6 _ (by simp))).trans p1
          have k2 := (World.cell?_of_block (a := ⟨w.heap.size + 1, 2, none⟩) (o6 _ (by simp))).trans p2
          have B6 : Below w.heap.size w w6 := by rw [hw6]; exact (B4.setCell (p := ⟨w.heap.size, F + k, none⟩) (Nat.le_refl _) _).setCell (p := ⟨w.heap.size, F + k, none⟩) (Nat.le_refl _) _
          have s6 : w.heap.size + 3 ≤ w6.heap.size := by rw [hw6, show ((w4.setCell ⟨w.heap.size, F + k, none⟩ (.int .i64 0)).setCell ⟨w.heap.size, F + k, none⟩ (.int .i64 (i + k))).heap.size = w4.heap.size by simp [World.setCell]]; exact s4
          have h5 : Arr w6 w.heap.size 48 (setTo L F i (k + 1)) := by
            have h2 := h1.set (F + k) (i + k)
            rw [List.set_set] at h2
            rw [unhide hset, hw6]
            exact h2
          have h6 := hide ((unhide g4).kept (o6 _ (by omega)))
          have H5 := hide h5
          clear h1 h5 oth hfk g3
          go_wp2
          rw [← hw6]
          go_roundw
          case rel => exact ⟨k + 1, by omega, by go_num, unhide H5, unhide h6, k0, k1, k2, B6, s6⟩
          case measure => simp [intOf]; omega
        · have hset := hide (show setTo L F i (k + 1) = (setTo L F i k).set (F + k) 0 by rw [setTo, if_neg hip])
          obtain ⟨w5, hw5⟩ : ∃ W, W = w4.setCell ⟨w.heap.size, F + k, none⟩ (.int .i64 0) := ⟨_, rfl⟩
          have o5 : ∀ q, q ≠ w.heap.size → w5.heap[q]? = w4.heap[q]? := by rw [hw5]; exact oth w4 _
          have k0 := (World.cell?_of_block (a := ⟨w.heap.size + 1, 0, none⟩) (o5 _ (by simp))).trans p0
          have k1 := (World.cell?_of_block (a := ⟨w.heap.size + 1, 1, none⟩) (o5 _ (by simp))).trans p1
          have k2 := (World.cell?_of_block (a := ⟨w.heap.size + 1, 2, none⟩) (o5 _ (by simp))).trans p2
          have B5 : Below w.heap.size w w5 := by rw [hw5]; exact B4.setCell (p := ⟨w.heap.size, F + k, none⟩) (Nat.le_refl _) _
          have s5 : w.heap.size + 3 ≤ w5.heap.size := by rw [hw5, show (w4.setCell ⟨w.heap.size, F + k, none⟩ (.int .i64 0)).heap.size = w4.heap.size by simp [World.setCell]]; exact s4
          have h5 : Arr w5 w.heap.size 48 (setTo L F i (k + 1)) := by rw [unhide hset, hw5]; exact h1
          have h6 := hide ((unhide g4).kept (o5 _ (by omega)))
          have H5 := hide h5
          clear h1 h5 oth hfk g3
          go_wp2
          rw [← hw5]
          go_roundw
          case rel => exact ⟨k + 1, by omega, by go_num, unhide H5, unhide h6, k0, k1, k2, B5, s5⟩
          case measure => simp [intOf]; omega
      · have hkn : k = N := by omega
        subst hkn
        have hl : (setTo L F i k).length = 64 := by rw [setTo_len, hL]
        have hl' : (numCells (setTo L F i k)).length = 64 := by rw [numCells_len, hl]
        have Hl := hide hl
        have Hl' := hide hl'
        clear hl hl'
        go_wp2_with (first | (refine wpList_load_mid rfl _ _ rfl w.heap.size 0 rfl (numCells (setTo L F i k)) _ (unhide g3).range Tryz.underlying48 rfl (by rw [Tryz.infoMap, unhide Hl']) ?_) | (refine wpList_store_mid rfl _ _ _ rfl (w.heap.size + 1 + 1) 0 (numCells (setTo L F i k)).toArray rfl rfl ((unhide g4).there (by rw [List.size_toArray, unhide Hl']; simp [noneL])) (by rw [Tryz.infoMap, List.size_toArray, unhide Hl']) (all_oneCell_toArray (numCells_one _)) ?_))
        refine bodyPost_ret (v := arrV (setTo L F i k)) (results_arr Tryz.results64 rfl ((unhide g4).store (by rw [unhide Hl]; simp [noneL])) Tryz.underlying48 (by rw [Tryz.infoMap, unhide Hl])) rfl ⟨rfl, below_setCells (by omega) _ _ _ B4⟩
  · have ha' : aloneB f n i = false := by simpa using ha
    have hs : setL L f n i = L := by unfold setL; rw [ha']; rfl
    rw [hs]
    clear ha hs
    change Calls _ _ #[.agg (numCells L).toArray, .agg #[.int .i64 f, .int .i64 n, .int .i64 i]] w _
    go_enter Tryz.func64, Tryz.ntmps64
    go_wp2_with fail
    change Code.wp _ _ _ _ (((w.alloc (.cells (numCells L).toArray 48)).alloc (.cells #[.int .i64 f, .int .i64 n, .int .i64 i] 107)).alloc (.cells (numCells (noneL 0)).toArray 48))
    rw [← hw1, ← hw2, ← hw3]
    clear hw1 hw2 hw3
    go_loopw [5] (fun j wr => j = .int .i64 0 ∧ wr = w3) (fun _ _ => 0)
    case atStart => exact ⟨rfl, rfl⟩
    case round =>
      obtain ⟨rfl, hwr⟩ := hrel
      obtain rfl := hwr.symm
      go_wp2_with fail
      refine (alone_any f n i w3).mono ?_
      rintro e w4 ⟨rfl, HB4⟩
      have g3 := hide ((unhide HA3).below HB4)
      have g4 := hide ((unhide HA4).below HB4)
      have B4 : Below w.heap.size w w4 := B3.trans (HB4.mono (by omega))
      rw [ha']
      clear HB4
      go_wp2_with (first | (refine wpList_load_mid rfl _ _ rfl w.heap.size 0 rfl (numCells L) _ (unhide g3).range Tryz.underlying48 rfl (by rw [Tryz.infoMap, numCells_len, hL]) ?_) | (refine wpList_store_mid rfl _ _ _ rfl (w.heap.size + 1 + 1) 0 (numCells L).toArray rfl rfl ((unhide g4).there (by simp [numCells, noneL, hL])) (by rw [Tryz.infoMap]; simp [numCells, hL]) (all_oneCell_toArray (numCells_one _)) ?_))
      refine bodyPost_ret (v := arrV L) (results_arr Tryz.results64 rfl ((unhide g4).store (by simp [noneL, hL])) Tryz.underlying48 (by rw [Tryz.infoMap, hL])) rfl ⟨rfl, below_setCells (by omega) _ _ _ B4⟩
end Go.Proofs.YtjjfdkdneibjbaaGreatDoor
/- A block that is an array of marks. -/
namespace Go.Proofs.YtjjfdkdneibjbaaGreatDoor
open Go.RowKit

/-- The cells of an array of marks. -/
def boolCells (L : List Bool) : List Value := L.map Value.bool
def setV (L : List Bool) : Value := .agg (boolCells L).toArray
theorem boolCells_len (L : List Bool) : (boolCells L).length = L.length := by simp [boolCells]
theorem boolCells_one (L : List Bool) : ∀ v ∈ boolCells L, v.oneCell' = true := by
  intro v hv
  obtain ⟨x, _, rfl⟩ := List.mem_map.1 hv
  rfl
/-- The block b is the array L. -/
def BArr (w : World) (b : Nat) (t : TypeId) (L : List Bool) : Prop := w.heap[b]? = some (.cells (boolCells L).toArray t)
section
variable {w w' : World} {b : Nat} {t : TypeId} {L : List Bool}
theorem BArr.lt (h : BArr w b t L) : b < w.heap.size := (Array.getElem?_eq_some_iff.1 h).1
theorem BArr.cell (h : BArr w b t L) {k : Nat} (hk : k < L.length) : w.cell? ⟨b, k, none⟩ = some (.bool L[k]) := by
  have h : w.heap[b]? = some (.cells (boolCells L).toArray t) := h
  simp [World.cell?, h, boolCells, hk]
theorem BArr.frozen (h : BArr w b t L) (k : Nat) : w.frozen? ⟨b, k, none⟩ = false := by
  have h : w.heap[b]? = some (.cells (boolCells L).toArray t) := h
  simp [World.frozen?, h]
theorem BArr.kept (h : BArr w b t L) (hb : w'.heap[b]? = w.heap[b]?) : BArr w' b t L := hb.trans h
theorem BArr.below (h : BArr w b t L) (hb : Below w.heap.size w w') : BArr w' b t L := h.kept (hb.block b h.lt)
theorem BArr.range (h : BArr w b t L) : w.rangeAt b 0 (boolCells L) := fun j v hv => by
  have h : w.heap[b]? = some (.cells (boolCells L).toArray t) := h
  simp [World.cell?, h, hv]
theorem BArr.there (h : BArr w b t L) {n : Nat} (hn : n = L.length) : w.there b 0 n := fun j hj => by
  have hl : j < L.length := by omega
  rw [Nat.zero_add]
  exact ⟨by rw [h.cell hl]; rfl, h.frozen j⟩
theorem BArr.set (h : BArr w b t L) (k : Nat) (x : Bool) : BArr (w.setCell ⟨b, k, none⟩ (.bool x)) b t (L.set k x) := by
  have h : w.heap[b]? = some (.cells (boolCells L).toArray t) := h
  unfold BArr
  simp [World.setCell, Array.getElem?_modify, h, boolCells, List.map_set]
theorem BArr.store (h : BArr w b t L) {M : List Bool} (hn : M.length = L.length) : BArr (w.setCells b 0 (boolCells M)) b t M :=
  setCells_block b t (0, 0) (boolCells M) [] (boolCells L) w (by rw [boolCells_len, boolCells_len, hn]) h
theorem BArr.alloc (w : World) (t : TypeId) (L : List Bool) : BArr (w.alloc (.cells (boolCells L).toArray t)) w.heap.size t L := by
  show (w.heap.push _)[w.heap.size]? = some _
  simp
end
theorem results_barr {fn : Func} {tmps : Array Value} {P : Program} {w : World} {r b n e : Nat} {ty : TypeId} {L : List Bool} (h : fn.results = #[.cell r ty]) (hr : tmps.getD r undef = .pointer (some ⟨b, 0, none⟩)) (ha : BArr w b ty L) (hu : P.underlying ty = some (.array n e)) (hi : (P.info? ty).map (·.size) = some L.length) :
    (results fn tmps).run P w = .ok (setV L) w := by
  have := run_loadVar_mid (P := P) w b 0 ty (boolCells L) (.array n e) ha.range hu rfl (by rw [hi, boolCells_len])
  rw [Array.getD_eq_getD_getElem?] at hr
  simp [results, h, hr, asAddr, this, setV]
theorem Tryz.infoSet : (Tryz.prog.info? 63).map (·.size) = some 64 := by kernel_rfl
end Go.Proofs.YtjjfdkdneibjbaaGreatDoor
/- Walk of the reference: which blocks a map says something of. -/
namespace Go.Proofs.YtjjfdkdneibjbaaGreatDoor
open Go.RowKit

/-- Of which blocks something is said, of the first so many. -/
def saidK (L : List Int) (k : Nat) : List Bool := (L.take k).map (fun x => decide (0 ≤ x)) ++ List.replicate (64 - k) false
theorem saidK_len {L : List Int} (hL : L.length = 64) {k : Nat} (hk : k ≤ 64) : (saidK L k).length = 64 := by
  simp [saidK, hL]; omega
theorem saidK_succ {L : List Int} (hL : L.length = 64) {k : Nat} (hk : k < 64) : (saidK L k).set k (decide (0 ≤ L[k])) = saidK L (k + 1) := by
  unfold saidK
  have h1 : ((L.take k).map (fun x => decide (0 ≤ x))).length = k := by simp; omega
  rw [List.set_append_right _ _ (by omega), h1, Nat.sub_self]
  obtain ⟨m, hm⟩ : ∃ m, 64 - k = m + 1 := ⟨63 - k, by omega⟩
  rw [hm, List.replicate_succ, List.set_cons_zero, ← List.take_append_getElem (show k < L.length by omega), List.map_append, List.append_assoc]
  congr 1
  have h2 : 64 - (k + 1) = m := by omega
  rw [h2]; rfl
theorem saidK_get {L : List Int} (hL : L.length = 64) {k : Nat} (hk : k < 64) : (saidK L 64).getD k false = decide (0 ≤ L.getD k 0) := by
  unfold saidK
  simp [List.getD_eq_getElem?_getD, hL, hk]
set_option maxHeartbeats 4000000 in
set_option maxRecDepth 100000 in
theorem said_any (L : List Int) (hL : L.length = 64) (w : World) : Calls Tryz.prog 23 #[arrV L] w fun e w' => e = .returned (setV (saidK L 64)) ∧ Below w.heap.size w w' := by
  obtain ⟨w1, hw1⟩ : ∃ w1, w1 = w.alloc (.cells (numCells L).toArray 48) := ⟨_, rfl⟩
  obtain ⟨w2, hw2⟩ : ∃ w2, w2 = w1.alloc (.cells (boolCells (List.replicate 64 false)).toArray 63) := ⟨_, rfl⟩
  obtain ⟨w3, hw3⟩ : ∃ w3, w3 = w2.alloc (.cells (boolCells (List.replicate 64 false)).toArray 63) := ⟨_, rfl⟩
  have s1 : w1.heap.size = w.heap.size + 1 := by rw [hw1]; show (w.heap.push _).size = _; simp
  have s2 : w2.heap.size = w.heap.size + 2 := by rw [hw2]; show (w1.heap.push _).size = _; simp; omega
  have s3 : w3.heap.size = w.heap.size + 3 := by rw [hw3]; show (w2.heap.push _).size = _; simp; omega
  have B1 : Below w.heap.size w w1 := by rw [hw1]; exact (Below.refl _ _).alloc (Nat.le_refl _) _
  have B2 : Below w.heap.size w w2 := by rw [hw2]; exact B1.alloc (by omega) _
  have B3 : Below w.heap.size w w3 := by rw [hw3]; exact B2.alloc (by omega) _
  have a1 : Arr w3 w.heap.size 48 L := by
    rw [hw3, hw2, hw1]
    exact ((Arr.alloc w _ _).kept (Below.heap_alloc _ _ _ (by simp))).kept (Below.heap_alloc _ _ _ (by simp; omega))
  have b2 : BArr w3 (w.heap.size + 1) 63 (List.replicate 64 false) := by
    rw [hw3]
    refine BArr.kept (w := w2) ?_ (Below.heap_alloc _ _ _ (by omega))
    rw [hw2, ← s1]
    exact BArr.alloc w1 _ _
  have b3 : BArr w3 (w.heap.size + 1 + 1) 63 (saidK L 0) := by
    rw [hw3, show w.heap.size + 1 + 1 = w2.heap.size by omega]
    exact BArr.alloc w2 _ _
  have HA := hide a1
  have HB2 := hide b2
  have HB3 := hide b3
  have HLl := hide hL
  clear a1 b2 b3
  change Calls _ _ #[.agg (numCells L).toArray] w _
  go_enter Tryz.func23, Tryz.ntmps23
  go_wp2_with fail
  change Code.wp _ _ _ _ (((w.alloc (.cells (numCells L).toArray 48)).alloc (.cells (boolCells (List.replicate 64 false)).toArray 63)).alloc (.cells (boolCells (List.replicate 64 false)).toArray 63))
  rw [← hw1, ← hw2, ← hw3]
  clear hw1 hw2 hw3 B1 B2 s1 s2 hL
  go_loopw [4] (fun j wr => ∃ k : Nat, k ≤ 64 ∧ j = .int .i64 k ∧ Arr wr w.heap.size 48 L ∧ BArr wr (w.heap.size + 1) 63 (List.replicate 64 false) ∧ BArr wr (w.heap.size + 1 + 1) 63 (saidK L k) ∧ Below w.heap.size w wr) (fun j _ => 64 - (intOf j).toNat)
  case atStart => exact ⟨0, by omega, rfl, unhide HA, unhide HB2, unhide HB3, B3⟩
  case round =>
    obtain ⟨k, hk, rfl, h1, h2, h3, HB⟩ := hrel
    by_cases hlt : k < 64
    · have hkL : k < L.length := by have := unhide HLl; omega
      have hks : k < (saidK L k).length := by rw [saidK_len (unhide HLl) hk]; exact hlt
      obtain ⟨x, hx⟩ : ∃ x, x = L[k] := ⟨_, rfl⟩
      have c1 := h1.cell hkL
      rw [← hx] at c1
      obtain ⟨y, hy⟩ : ∃ y, wr.cell? ⟨w.heap.size + 1 + 1, k, none⟩ = some (.bool y) := ⟨_, h3.cell hks⟩
      have f1 := h3.frozen k
      obtain ⟨z, hz⟩ : ∃ z, decide (0 ≤ x) = z := ⟨_, rfl⟩
      have g3 := h3.set k z
      have e3 : (saidK L k).set k z = saidK L (k + 1) := by rw [← hz, hx]; exact saidK_succ (unhide HLl) hlt
      rw [e3] at g3
      have G1 := hide (h1.kept (w' := wr.setCell ⟨w.heap.size + 1 + 1, k, none⟩ (.bool z)) (Below.heap_setCell wr ⟨w.heap.size + 1 + 1, k, none⟩ _ _ (by simp; omega)))
      have G2 := hide (h2.kept (w' := wr.setCell ⟨w.heap.size + 1 + 1, k, none⟩ (.bool z)) (Below.heap_setCell wr ⟨w.heap.size + 1 + 1, k, none⟩ _ _ (by simp)))
      have G3 := hide g3
      have B4 := hide (HB.setCell (p := ⟨w.heap.size + 1 + 1, k, none⟩) (show w.heap.size ≤ w.heap.size + 1 + 1 by omega) (.bool z))
      clear h1 h2 h3 g3 e3 hx HB hkL hks
      go_wp2_with fail
      go_roundw
      case rel => exact ⟨k + 1, by omega, by go_num, unhide G1, unhide G2, unhide G3, unhide B4⟩
      case measure => simp [intOf]; omega
    · have hk64 : k = 64 := by omega
      subst hk64
      have H2 := hide h2
      have H3 := hide h3
      have hl := saidK_len (unhide HLl) (Nat.le_refl 64)
      have Hl := hide hl
      clear h1 h2 h3 hl
      go_wp2_with (first | (refine wpList_load_mid rfl _ _ rfl (w.heap.size + 1 + 1) 0 rfl (boolCells (saidK L 64)) _ (unhide H3).range Tryz.underlying63 rfl (by rw [Tryz.infoSet, boolCells_len, unhide Hl]) ?_) | (refine wpList_store_mid rfl _ _ _ rfl (w.heap.size + 1) 0 (boolCells (saidK L 64)).toArray rfl rfl ((unhide H2).there (by rw [List.size_toArray, boolCells_len, unhide Hl]; simp)) (by rw [Tryz.infoSet, List.size_toArray, boolCells_len, unhide Hl]) (all_oneCell_toArray (boolCells_one _)) ?_))
      refine bodyPost_ret (v := setV (saidK L 64)) (results_barr Tryz.results23 rfl ((unhide H2).store (by rw [unhide Hl]; simp)) Tryz.underlying63 (by rw [Tryz.infoSet, unhide Hl])) rfl ⟨rfl, below_setCells (by omega) _ _ _ HB⟩
end Go.Proofs.YtjjfdkdneibjbaaGreatDoor
