/- Joined texts: SpanB, ArrC, Ext, ArrD, ArrE. -/
import Derived.Test.YtjjfdkdneibjbaaGreatDoorJw03
import Derived.Test.YtjjfdkdneibjbaaGreatDoorJw01
import Derived.StillTailTactics
/- Walk of span.Less where the two do not meet. -/
namespace Go.Proofs.YtjjfdkdneibjbaaGreatDoor
open Go.RowKit

set_option maxHeartbeats 4000000 in
set_option maxRecDepth 100000 in
theorem less_no (f n g m : Int) (w : World) (h : WhS f n) (k : WhS g m) (ho : Off f n g m) : Calls Tryz.prog 189 #[.agg #[.int .i64 f, .int .i64 n], .agg #[.int .i64 g, .int .i64 m]] w fun e w' => (∃ q, e = .returned (.slice (some ⟨q, 0, none⟩) 1 1) ∧ w.heap.size ≤ q ∧ q < w'.heap.size ∧ w'.cell? ⟨q, 0, none⟩ = some (.int .i64 f) ∧ w'.cell? ⟨q, 1, none⟩ = some (.int .i64 n)) ∧ Below w.heap.size w w' := by
  obtain ⟨w1, hw1, B1, s1, c0, c1, d0, d1⟩ := box22 w f n g m 59
  go_enter Tryz.func189, Tryz.ntmps189
  go_wp2_with fail
  rw [← hw1]
  clear hw1
  refine (whole_sp f n w1 h).mono ?_
  rintro e w2 ⟨rfl, HB2⟩
  have d0 := ((bcell HB2).1 _ 0 (show w.heap.size + 1 < w1.heap.size by omega)).trans d0
  have d1 := ((bcell HB2).1 _ 1 (show w.heap.size + 1 < w1.heap.size by omega)).trans d1
  have c0 := ((bcell HB2).1 _ 0 (show w.heap.size < w1.heap.size by omega)).trans c0
  have c1 := ((bcell HB2).1 _ 1 (show w.heap.size < w1.heap.size by omega)).trans c1
  have B2 : Below w.heap.size w w2 := B1.trans (HB2.mono (by omega))
  have s2 : w.heap.size + 2 ≤ w2.heap.size := by have := HB2.size; omega
  clear HB2 B1
  go_wp2_with fail
  refine (meet_no f n g m w2 h k ho).mono ?_
  rintro e w3 ⟨rfl, HB2⟩
  have c0 := ((bcell HB2).1 _ 0 (show w.heap.size < w2.heap.size by omega)).trans c0
  have c1 := ((bcell HB2).1 _ 1 (show w.heap.size < w2.heap.size by omega)).trans c1
  have B3 : Below w.heap.size w w3 := B2.trans (HB2.mono (by omega))
  have s3 : w.heap.size + 2 ≤ w3.heap.size := by have := HB2.size; omega
  clear HB2 B2 d0 d1
  have lt0 : w.heap.size < w3.heap.size := by omega
  go_wp2_with fail
  go_ret
  have e : w3.heap.size + 1 = (w3.alloc (.cells #[.int .i64 0, .int .i64 0] 59)).heap.size := (hal _ _).symm
  refine ⟨⟨w3.heap.size + 1, rfl, by omega, by rw [hal, hal]; omega, ?_, ?_⟩, (B3.alloc (by omega) _).alloc (by rw [hal]; omega) _⟩
  · rw [e]; exact World.cell?_alloc_at _ _ _ _ rfl
  · rw [e]; exact World.cell?_alloc_at _ _ _ _ rfl
end Go.Proofs.YtjjfdkdneibjbaaGreatDoor
/- A map's blocks are set: the walk. -/
namespace Go.Proofs.YtjjfdkdneibjbaaGreatDoor
open Go.RowKit

/-- So many of an extent's blocks are set. -/
def setTo (L : List Int) (f : Nat) (i : Int) : Nat → List Int
  | 0 => L
  | k + 1 => (setTo L f i k).set (f + k) (if 0 < i then i + k else 0)
theorem setTo_len (L : List Int) (f : Nat) (i : Int) (k : Nat) : (setTo L f i k).length = L.length := by
  induction k with
  | zero => rfl
  | succ k ih => rw [setTo, List.length_set, ih]
/-- A map with an extent set in it. -/
def setL (L : List Int) (f n i : Int) : List Int := if aloneB f n i = true then setTo L f.toNat i n.toNat else L
theorem setL_len (L : List Int) (f n i : Int) : (setL L f n i).length = L.length := by
  unfold setL; split
  · exact setTo_len _ _ _ _
  · rfl
theorem alone_bd {f n i : Int} (h : aloneB f n i = true) : 0 ≤ f ∧ 1 ≤ n ∧ f + n ≤ 64 ∧ 0 ≤ i ∧ i ≤ 60 := by
  unfold aloneB wholeB at h
  simp at h
  omega
set_option maxHeartbeats 4000000 in
set_option maxRecDepth 100000 in
theorem set_any (L : List Int) (hL : L.length = 64) (f n i : Int) (w : World) : Calls Tryz.prog 64 #[arrV L, .agg #[.int .i64 f, .int .i64 n, .int .i64 i]] w fun e w' => e = .returned (arrV (setL L f n i)) ∧ Below w.heap.size w w' := by
  obtain ⟨w1, hw1⟩ : ∃ w1, w1 = w.alloc (.cells (numCells L).toArray 48) := ⟨_, rfl⟩
  obtain ⟨w2, hw2⟩ : ∃ w2, w2 = w1.alloc (.cells #[.int .i64 f, .int .i64 n, .int .i64 i] 107) := ⟨_, rfl⟩
  have B1 : Below w.heap.size w w1 := by rw [hw1]; exact (Below.refl _ _).alloc (Nat.le_refl _) _
  have s1 : w1.heap.size = w.heap.size + 1 := by rw [hw1]; show (w.heap.push _).size = _; simp
  have s2 : w2.heap.size = w1.heap.size + 1 := by rw [hw2]; show (w1.heap.push _).size = _; simp
  have a1 : Arr w1 w.heap.size 48 L := by rw [hw1]; exact Arr.alloc w _ _
  have B2 : Below w.heap.size w w2 := by rw [hw2]; exact B1.alloc (by omega) _
  have a2 : Arr w2 w.heap.size 48 L := by rw [hw2]; exact a1.kept (Below.heap_alloc w1 _ _ (by omega))
  have c0 : w2.cell? ⟨w.heap.size + 1, 0, none⟩ = some (.int .i64 f) := by rw [hw2, ← s1]; exact World.cell?_alloc_at _ _ _ _ rfl
  have c1 : w2.cell? ⟨w.heap.size + 1, 1, none⟩ = some (.int .i64 n) := by rw [hw2, ← s1]; exact World.cell?_alloc_at _ _ _ _ rfl
  have c2 : w2.cell? ⟨w.heap.size + 1, 2, none⟩ = some (.int .i64 i) := by rw [hw2, ← s1]; exact World.cell?_alloc_at _ _ _ _ rfl
  obtain ⟨w3, hw3⟩ : ∃ w3, w3 = w2.alloc (.cells (numCells (noneL 0)).toArray 48) := ⟨_, rfl⟩
  have B3 : Below w.heap.size w w3 := by rw [hw3]; exact B2.alloc (by omega) _
  have a3 : Arr w3 w.heap.size 48 L := by rw [hw3]; exact a2.kept (Below.heap_alloc w2 _ _ (by omega))
  have a4 : Arr w3 (w.heap.size + 1 + 1) 48 (noneL 0) := by rw [hw3, ← s1, ← s2]; exact Arr.alloc w2 _ _
  have Bx : Below w2.heap.size w2 w3 := by rw [hw3]; exact (Below.refl _ _).alloc (Nat.le_refl _) _
  have e0 := ((bcell Bx).1 (w.heap.size + 1) 0 (by omega)).trans c0
  have e1 := ((bcell Bx).1 (w.heap.size + 1) 1 (by omega)).trans c1
  have e2 := ((bcell Bx).1 (w.heap.size + 1) 2 (by omega)).trans c2
  have s3 : w.heap.size + 3 ≤ w3.heap.size := by rw [hw3]; show _ ≤ (w2.heap.push _).size; simp; omega
  have HA3 := hide a3
  have HA4 := hide a4
  clear a1 a2 a3 a4 c0 c1 c2 Bx B1 B2
  have Hs1 := hide s1
  have Hs2 := hide s2
  clear s1 s2
  by_cases ha : aloneB f n i = true
  · obtain ⟨f0, n1, fn, i0, i60⟩ := alone_bd ha
    obtain ⟨F, rfl⟩ : ∃ F : Nat, f = (F : Int) := ⟨f.toNat, by omega⟩
    obtain ⟨N, rfl⟩ : ∃ N : Nat, n = (N : Int) := ⟨n.toNat, by omega⟩
    have hs : setL L F N i = setTo L F i N := by unfold setL; rw [if_pos ha]; simp
    rw [hs]
    have Ha := hide ha
    clear hs ha
    change Calls _ _ #[.agg (numCells L).toArray, .agg #[.int .i64 F, .int .i64 N, .int .i64 i]] w _
    go_enter Tryz.func64, Tryz.ntmps64
    go_wp2_with fail
    change Code.wp _ _ _ _ (((w.alloc (.cells (numCells L).toArray 48)).alloc (.cells #[.int .i64 F, .int .i64 N, .int .i64 i] 107)).alloc (.cells (numCells (noneL 0)).toArray 48))
    rw [← hw1, ← hw2, ← hw3]
    clear hw1 hw2 hw3
    go_loopw [5] (fun j wr => ∃ k : Nat, k ≤ N ∧ j = .int .i64 k ∧ Arr wr w.heap.size 48 (setTo L F i k) ∧ Arr wr (w.heap.size + 1 + 1) 48 (noneL 0) ∧ wr.cell? ⟨w.heap.size + 1, 0, none⟩ = some (.int .i64 F) ∧ wr.cell? ⟨w.heap.size + 1, 1, none⟩ = some (.int .i64 N) ∧ wr.cell? ⟨w.heap.size + 1, 2, none⟩ = some (.int .i64 i) ∧ Below w.heap.size w wr ∧ w.heap.size + 3 ≤ wr.heap.size) (fun j _ => N - (intOf j).toNat)
    case atStart => exact ⟨0, Nat.zero_le _, rfl, unhide HA3, unhide HA4, e0, e1, e2, B3, s3⟩
    case round =>
      obtain ⟨k, hk, rfl, r1, r2, q0, q1, q2, HB, hsz⟩ := hrel
      have R1 := hide r1
      have R2 := hide r2
      clear r1 r2
      go_wp2_with fail
      refine (alone_any F N i wr).mono ?_
      rintro e w4 ⟨rfl, HB4⟩
      have g3 := hide ((unhide R1).below HB4)
      have g4 := hide ((unhide R2).below HB4)
      have p0 := ((bcell HB4).1 (w.heap.size + 1) 0 (by omega)).trans q0
      have p1 := ((bcell HB4).1 (w.heap.size + 1) 1 (by omega)).trans q1
      have p2 := ((bcell HB4).1 (w.heap.size + 1) 2 (by omega)).trans q2
      have B4 : Below w.heap.size w w4 := HB.trans (HB4.mono (by omega))
      have s4 : w.heap.size + 3 ≤ w4.heap.size := Nat.le_trans hsz HB4.size
      rw [unhide Ha]
      clear HB4 q0 q1 q2
      by_cases hlt : k < N
      · have hfk : F + k < (setTo L F i k).length := by rw [setTo_len, hL]; omega
        obtain ⟨x, hx⟩ : ∃ x, w4.cell? ⟨w.heap.size, F + k, none⟩ = some (.int .i64 x) := ⟨_, (unhide g3).cell hfk⟩
        have f1 := (unhide g3).frozen (F + k)
        have h1 := (unhide g3).set (F + k) 0
        have oth : ∀ (W : World) (v : Value) (q : Nat), q ≠ w.heap.size → (W.setCell ⟨w.heap.size, F + k, none⟩ v).heap[q]? = W.heap[q]? := fun W v q hq => Below.heap_setCell W ⟨w.heap.size, F + k, none⟩ v q hq
        by_cases hip : 0 < i
        · have hset := hide (show setTo L F i (k + 1) = (setTo L F i k).set (F + k) (i + k) by rw [setTo, if_pos hip])
          obtain ⟨w6, hw6⟩ : ∃ W, W = (w4.setCell ⟨w.heap.size, F + k, none⟩ (.int .i64 0)).setCell ⟨w.heap.size, F + k, none⟩ (.int .i64 (i + k)) := ⟨_, rfl⟩
          have o6 : ∀ q, q ≠ w.heap.size → w6.heap[q]? = w4.heap[q]? := by rw [hw6]; exact fun q hq => (oth _ _ q hq).trans (oth w4 _ q hq)
          have k0 := (World.cell?_of_block (a := ⟨w.heap.size + 1, 0, none⟩) (o6 _ (by simp))).trans p0
          have k1 := (World.cell?_of_block (a := ⟨w.heap.size + 1, 1, none⟩) (o6 _ (by simp))).trans p1
          have k2 := (World.cell?_of_block (a := ⟨w.heap.size + 1, 2, none⟩) (o6 _ (by simp))).trans p2
          have B6 : Below w.heap.size w w6 := by rw [hw6]; exact (B4.setCell (p := ⟨w.heap.size, F + k, none⟩) (Nat.le_refl _) _).setCell (p := ⟨w.heap.size, F + k, none⟩) (Nat.le_refl _) _
          have s6 : w.heap.size + 3 ≤ w6.heap.size := by rw [hw6, show ((w4.setCell ⟨w.heap.size, F + k, none⟩ (.int .i64 0)).setCell ⟨w.heap.size, F + k, none⟩ (.int .i64 (i + k))).heap.size = w4.heap.size by simp [World.setCell]]; exact s4
          have h5 : Arr w6 w.heap.size 48 (setTo L F i (k + 1)) := by
            have h2 := h1.set (F + k) (i + k)
            rw [List.set_set] at h2
            rw [unhide hset, hw6]
            exact h2
          have h6 := hide ((unhide g4).kept (o6 _ (by omega)))
          have H5 := hide h5
          clear h1 h5 oth hfk g3
          go_wp2
          rw [← hw6]
          go_roundw
          case rel => exact ⟨k + 1, by omega, by go_num, unhide H5, unhide h6, k0, k1, k2, B6, s6⟩
          case measure => simp [intOf]; omega
        · have hset := hide (show setTo L F i (k + 1) = (setTo L F i k).set (F + k) 0 by rw [setTo, if_neg hip])
          obtain ⟨w5, hw5⟩ : ∃ W, W = w4.setCell ⟨w.heap.size, F + k, none⟩ (.int .i64 0) := ⟨_, rfl⟩
          have o5 : ∀ q, q ≠ w.heap.size → w5.heap[q]? = w4.heap[q]? := by rw [hw5]; exact oth w4 _
          have k0 := (World.cell?_of_block (a := ⟨w.heap.size + 1, 0, none⟩) (o5 _ (by simp))).trans p0
          have k1 := (World.cell?_of_block (a := ⟨w.heap.size + 1, 1, none⟩) (o5 _ (by simp))).trans p1
          have k2 := (World.cell?_of_block (a := ⟨w.heap.size + 1, 2, none⟩) (o5 _ (by simp))).trans p2
          have B5 : Below w.heap.size w w5 := by rw [hw5]; exact B4.setCell (p := ⟨w.heap.size, F + k, none⟩) (Nat.le_refl _) _
          have s5 : w.heap.size + 3 ≤ w5.heap.size := by rw [hw5, show (w4.setCell ⟨w.heap.size, F + k, none⟩ (.int .i64 0)).heap.size = w4.heap.size by simp [World.setCell]]; exact s4
          have h5 : Arr w5 w.heap.size 48 (setTo L F i (k + 1)) := by rw [unhide hset, hw5]; exact h1
          have h6 := hide ((unhide g4).kept (o5 _ (by omega)))
          have H5 := hide h5
          clear h1 h5 oth hfk g3
          go_wp2
          rw [← hw5]
          go_roundw
          case rel => exact ⟨k + 1, by omega, by go_num, unhide H5, unhide h6, k0, k1, k2, B5, s5⟩
          case measure => simp [intOf]; omega
      · have hkn : k = N := by omega
        subst hkn
        have hl : (setTo L F i k).length = 64 := by rw [setTo_len, hL]
        have hl' : (numCells (setTo L F i k)).length = 64 := by rw [numCells_len, hl]
        have Hl := hide hl
        have Hl' := hide hl'
        clear hl hl'
        go_wp2_with (first | (refine wpList_load_mid rfl _ _ rfl w.heap.size 0 rfl (numCells (setTo L F i k)) _ (unhide g3).range Tryz.underlying48 rfl (by rw [Tryz.infoMap, unhide Hl']) ?_) | (refine wpList_store_mid rfl _ _ _ rfl (w.heap.size + 1 + 1) 0 (numCells (setTo L F i k)).toArray rfl rfl ((unhide g4).there (by rw [List.size_toArray, unhide Hl']; simp [noneL])) (by rw [Tryz.infoMap, List.size_toArray, unhide Hl']) (all_oneCell_toArray (numCells_one _)) ?_))
        refine bodyPost_ret (v := arrV (setTo L F i k)) (results_arr Tryz.results64 rfl ((unhide g4).store (by rw [unhide Hl]; simp [noneL])) Tryz.underlying48 (by rw [Tryz.infoMap, unhide Hl])) rfl ⟨rfl, below_setCells (by omega) _ _ _ B4⟩
  · have ha' : aloneB f n i = false := by simpa using ha
    have hs : setL L f n i = L := by unfold setL; rw [ha']; rfl
    rw [hs]
    clear ha hs
    change Calls _ _ #[.agg (numCells L).toArray, .agg #[.int .i64 f, .int .i64 n, .int .i64 i]] w _
    go_enter Tryz.func64, Tryz.ntmps64
    go_wp2_with fail
    change Code.wp _ _ _ _ (((w.alloc (.cells (numCells L).toArray 48)).alloc (.cells #[.int .i64 f, .int .i64 n, .int .i64 i] 107)).alloc (.cells (numCells (noneL 0)).toArray 48))
    rw [← hw1, ← hw2, ← hw3]
    clear hw1 hw2 hw3
    go_loopw [5] (fun j wr => j = .int .i64 0 ∧ wr = w3) (fun _ _ => 0)
    case atStart => exact ⟨rfl, rfl⟩
    case round =>
      obtain ⟨rfl, hwr⟩ := hrel
      obtain rfl := hwr.symm
      go_wp2_with fail
      refine (alone_any f n i w3).mono ?_
      rintro e w4 ⟨rfl, HB4⟩
      have g3 := hide ((unhide HA3).below HB4)
      have g4 := hide ((unhide HA4).below HB4)
      have B4 : Below w.heap.size w w4 := B3.trans (HB4.mono (by omega))
      rw [ha']
      clear HB4
      go_wp2_with (first | (refine wpList_load_mid rfl _ _ rfl w.heap.size 0 rfl (numCells L) _ (unhide g3).range Tryz.underlying48 rfl (by rw [Tryz.infoMap, numCells_len, hL]) ?_) | (refine wpList_store_mid rfl _ _ _ rfl (w.heap.size + 1 + 1) 0 (numCells L).toArray rfl rfl ((unhide g4).there (by simp [numCells, noneL, hL])) (by rw [Tryz.infoMap]; simp [numCells, hL]) (all_oneCell_toArray (numCells_one _)) ?_))
      refine bodyPost_ret (v := arrV L) (results_arr Tryz.results64 rfl ((unhide g4).store (by simp [noneL, hL])) Tryz.underlying48 (by rw [Tryz.infoMap, hL])) rfl ⟨rfl, below_setCells (by omega) _ _ _ B4⟩
end Go.Proofs.YtjjfdkdneibjbaaGreatDoor
/- Extents, as they lie. -/
namespace Go.Proofs.YtjjfdkdneibjbaaGreatDoor
open Go.RowKit

structure Ext where
  from_ : Int
  n : Int
  id : Int
def eE : Enc Ext := ⟨3, fun p j => match j with | 0 => .int .i64 p.from_ | 1 => .int .i64 p.n | _ => .int .i64 p.id⟩
theorem eE_one (L : List Ext) : ∀ u ∈ eE.flat L, u.oneCell' = true := by
  intro u hu
  obtain ⟨x, _, hx⟩ := List.mem_flatMap.1 hu
  simp only [Enc.cells, eE, List.mem_map, List.mem_range] at hx
  obtain ⟨j, hj, rfl⟩ := hx
  rcases (show j = 0 ∨ j = 1 ∨ j = 2 by omega) with rfl | rfl | rfl <;> rfl
theorem Tryz.infoE : ((Tryz.prog.info? 107).map fun i => (i.zero, i.size, i.bytes)) = some (some (.agg #[.int .i64 0, .int .i64 0, .int .i64 0]), 3, 24) := by kernel_rfl
end Go.Proofs.YtjjfdkdneibjbaaGreatDoor
/- A map of extents, one behind the other. -/
namespace Go.Proofs.YtjjfdkdneibjbaaGreatDoor
open Go.RowKit

theorem wpStill_load_mid {P : Program} {ops : Array Oper} {w : World} {Q : Act → Prop} {a : Act} {o : Oper} {rest : List Oper} (hgd : o.guard = none) (ty : TypeId) (x : Operand) (ho : o.op = .load ty x)
    (b off : Nat) (hx : a.eval x = .pointer (some ⟨b, off, none⟩)) (cs : List Value) (d : TypeDesc) (hc : w.rangeAt b off cs) (hu : P.underlying ty = some d) (hd : d.isRow = true) (hi : (P.info? ty).map (·.size) = some cs.length)
    (h : wpStill P ops w Q rest (a.put o.dst (.agg cs.toArray))) : wpStill P ops w Q (o :: rest) a := by
  refine wpStill_step fun K hK => ?_
  have hw : Region.wanted o (yielded ops a.tmps) = true := by simp [Region.wanted, hgd]
  rw [if_pos hw]
  unfold Oper.still
  unfold execOp
  simp only [ho, hx, Instr.loadAt, Instr.sureAddr, Sem.run_bind, Sem.run_pure, Result.andThen_ok, run_loadVar_mid w b off ty cs d hc hu hd hi, Oper.stillUpon_value]
  exact hK _ h
/-- The map of a list of extents. -/
def ofL (es : List Ext) : List Int := es.foldl (fun m x => setL m x.from_ x.n x.id) (noneL 64)
theorem ofL_snoc (es : List Ext) (x : Ext) : ofL (es ++ [x]) = setL (ofL es) x.from_ x.n x.id := by simp [ofL]
theorem foldl_len (es : List Ext) : ∀ m : List Int, (es.foldl (fun m x => setL m x.from_ x.n x.id) m).length = m.length := by
  induction es with
  | nil => intro m; rfl
  | cons x es ih => intro m; rw [List.foldl_cons, ih, setL_len]
theorem ofL_len (es : List Ext) : (ofL es).length = 64 := (foldl_len es _).trans (noneL_len (Nat.le_refl _))
set_option maxHeartbeats 4000000 in
set_option maxRecDepth 100000 in
theorem of_any (A : Option Addr) (n c : Nat) (es : List Ext) (w : World) (hs : Sl eE w A n c es) : Calls Tryz.prog 17 #[.slice A n c] w fun e w' => e = .returned (arrV (ofL es)) ∧ Below w.heap.size w w' := by
  have hn := hs.1
  have b1 := hs.2.1
  have b2 := hs.2.2.1
  have R := hide hs.2.2.2
  have Hn := hide hn
  obtain ⟨w1, hw1⟩ : ∃ w1, w1 = w.alloc (.cells (numCells (noneL 0)).toArray 48) := ⟨_, rfl⟩
  have B1 : Below w.heap.size w w1 := by rw [hw1]; exact (Below.refl _ _).alloc (Nat.le_refl _) _
  have s1 : w1.heap.size = w.heap.size + 1 := by rw [hw1]; show (w.heap.push _).size = _; simp
  have a1 : Arr w1 w.heap.size 48 (noneL 0) := by rw [hw1]; exact Arr.alloc w _ _
  have HA1 := hide a1
  clear hs hn a1
  go_enter Tryz.func17, Tryz.ntmps17
  go_wp2_with fail
  change Calls _ _ _ (w.alloc (.cells (numCells (noneL 0)).toArray 48)) _
  rw [← hw1]
  clear hw1
  refine (refnone_any w1).mono ?_
  rintro e w2 ⟨rfl, HB2⟩
  have B2 : Below w.heap.size w w2 := B1.trans (HB2.mono (by omega))
  have a2 := hide ((unhide HA1).below HB2)
  have s2 : w.heap.size + 1 ≤ w2.heap.size := s1 ▸ HB2.size
  clear HB2 HA1 B1
  obtain ⟨w3, hw3⟩ : ∃ W, W = (w2.alloc (.cells (numCells (noneL 0)).toArray 48)).setCells w2.heap.size 0 (numCells (noneL 64)) := ⟨_, rfl⟩
  have a3 : Arr w3 w2.heap.size 48 (noneL 64) := by rw [hw3]; exact (Arr.alloc w2 _ (noneL 0)).store (by simp [noneL])
  have B3 : Below w2.heap.size w2 w3 := by rw [hw3]; exact below_setCells (Nat.le_refl _) _ _ _ ((Below.refl _ _).alloc (Nat.le_refl _) _)
  have s3 : w2.heap.size + 1 ≤ w3.heap.size := by rw [hw3, size_setCells]; show _ ≤ (w2.heap.push _).size; simp
  have H3 := hide a3
  have g2 := hide ((unhide a2).below B3)
  have B30 : Below w.heap.size w w3 := B2.trans (B3.mono (by omega))
  clear a3 B3 B2
  go_wp2_with (refine wpList_store_mid rfl _ _ _ rfl w2.heap.size 0 (numCells (noneL 64)).toArray rfl rfl ((Arr.alloc w2 48 (noneL 0)).there (by simp [numCells, noneL])) (by rw [Tryz.infoMap]; simp [numCells, noneL]) (all_oneCell_toArray (numCells_one _)) ?_)
  change Code.wp _ _ _ _ ((w2.alloc (.cells (numCells (noneL 0)).toArray 48)).setCells w2.heap.size 0 (numCells (noneL 64)))
  rw [← hw3]
  clear hw3
  obtain ⟨p, hp⟩ : ∃ p, p = w2.heap.size := ⟨_, rfl⟩
  rw [← hp] at H3 s3 ⊢
  have hpw : w.heap.size + 1 ≤ p := by omega
  clear hp s2
  go_loopw [4] (fun j wr => ∃ k : Nat, k ≤ n ∧ j = .int .i64 k ∧ Arr wr p 48 (ofL (es.take k)) ∧ Arr wr w.heap.size 48 (noneL 0) ∧ Below w.heap.size w wr) (fun j _ => n - (intOf j).toNat)
  case atStart => exact ⟨0, Nat.zero_le _, rfl, unhide H3, unhide g2, B30⟩
  case round =>
    obtain ⟨k, hk, rfl, h1, h2, HB⟩ := hrel
    have G1 := hide h1
    have G2 := hide h2
    have hpl := h1.lt
    by_cases hlt : k < n
    · have hke : k < es.length := by have := unhide Hn; omega
      obtain ⟨b, off, eA, lA, hr⟩ := unhide R (by omega)
      subst eA
      have x0 : wr.cell? ⟨b, off + k * 3, none⟩ = some (.int .i64 es[k].from_) := ((bcell HB).1 _ _ lA).trans (hr k hke 0 (by decide))
      have x1 : wr.cell? ⟨b, off + k * 3 + 1, none⟩ = some (.int .i64 es[k].n) := ((bcell HB).1 _ _ lA).trans (hr k hke 1 (by decide))
      have x2 : wr.cell? ⟨b, off + k * 3 + 2, none⟩ = some (.int .i64 es[k].id) := ((bcell HB).1 _ _ lA).trans (hr k hke 2 (by decide))
      have hof := hide (show ofL (es.take (k + 1)) = setL (ofL (es.take k)) es[k].from_ es[k].n es[k].id by
        rw [← ofL_snoc, List.take_append_getElem hke])
      obtain ⟨f, hf⟩ : ∃ y, y = es[k].from_ := ⟨_, rfl⟩
      obtain ⟨m, hm⟩ : ∃ y, y = es[k].n := ⟨_, rfl⟩
      obtain ⟨i, hi⟩ : ∃ y, y = es[k].id := ⟨_, rfl⟩
      rw [← hf] at x0 hof
      rw [← hm] at x1 hof
      rw [← hi] at x2 hof
      obtain ⟨L, hLe⟩ : ∃ L, L = ofL (es.take k) := ⟨_, rfl⟩
      rw [← hLe] at G1 hof
      have hL64 : L.length = 64 := by rw [hLe]; exact ofL_len _
      have hl' : (numCells L).length = 64 := by rw [numCells_len, hL64]
      have Hl' := hide hl'
      have HL64 := hide hL64
      clear hr h1 h2 hf hm hi hLe hl' hL64
      have G1d : Arr wr.drew p 48 L := (unhide G1).kept rfl
      have Gd := hide G1d
      clear G1d
      go_wp2
      refine wp_region_still_tail 5 (by kernel_rfl) (by kernel_rfl) ?_
      simp only [List.take_succ_cons, List.take_zero, List.drop_succ_cons, List.drop_zero]
      refine wpStill_load_mid rfl _ _ rfl p 0 rfl (numCells L) _ (unhide Gd).range Tryz.underlying48 rfl (by rw [Tryz.infoMap, unhide Hl']) ?_
      repeat still_step
      refine wpStill_nil ?_
      change wpList _ _ _ _ _ wr.drew
      go_wp2_with fail
      refine (set_any L (unhide HL64) f m i wr.drew).mono ?_
      rintro e w5 ⟨rfl, HB5⟩
      have g5 := hide ((unhide Gd).below HB5)
      have G2d : Arr wr.drew w.heap.size 48 (noneL 0) := (unhide G2).kept rfl
      have g6 := hide (G2d.below HB5)
      have B5 : Below w.heap.size w w5 := HB.trans ((show Below wr.heap.size wr w5 from ⟨HB5.os, HB5.tape, HB5.output, HB5.size, HB5.block⟩).mono HB.size)
      have s5 := B5.size
      have hl2 : (setL L f m i).length = 64 := by rw [setL_len]; exact unhide HL64
      have hl3 : (numCells (setL L f m i)).length = 64 := by rw [numCells_len, hl2]
      have h9 := (unhide g5).store (M := setL L f m i) (by rw [hl2, unhide HL64])
      have h10 := (unhide g6).kept (setCells_other p (numCells (setL L f m i)) 0 w5 w.heap.size (by omega))
      have B9 : Below w.heap.size w (w5.setCells p 0 (numCells (setL L f m i))) := below_setCells (by omega) _ _ _ B5
      have H9 := hide h9
      have H10 := hide h10
      have Hl3 := hide hl3
      clear HB5 G2d hl2 hl3 h9 h10 B5 x0 x1 x2
      go_wp2_with (refine wpList_store_mid rfl _ _ _ rfl p 0 (numCells (setL L f m i)).toArray rfl rfl ((unhide g5).there (by rw [List.size_toArray, unhide Hl3, unhide HL64])) (by rw [Tryz.infoMap, List.size_toArray, unhide Hl3]) (all_oneCell_toArray (numCells_one _)) ?_)
      go_roundw
      case rel => exact ⟨k + 1, by omega, by go_num, by rw [unhide hof]; exact unhide H9, unhide H10, B9⟩
      case measure => simp [intOf]; omega
    · have hkn : k = n := by omega
      subst hkn
      have hte : es.take k = es := List.take_of_length_le (by have := unhide Hn; omega)
      rw [hte] at G1
      have hl' : (numCells (ofL es)).length = 64 := by rw [numCells_len, ofL_len]
      have Hl' := hide hl'
      clear h1 h2 hl' hte
      go_wp2_with (first | (refine wpList_load_mid rfl _ _ rfl p 0 rfl (numCells (ofL es)) _ (unhide G1).range Tryz.underlying48 rfl (by rw [Tryz.infoMap, unhide Hl']) ?_) | (refine wpList_store_mid rfl _ _ _ rfl w.heap.size 0 (numCells (ofL es)).toArray rfl rfl ((unhide G2).there (by rw [List.size_toArray, unhide Hl']; simp [noneL])) (by rw [Tryz.infoMap, List.size_toArray, unhide Hl']) (all_oneCell_toArray (numCells_one _)) ?_))
      refine bodyPost_ret (v := arrV (ofL es)) (results_arr Tryz.results17 rfl ((unhide G2).store (by rw [ofL_len]; simp [noneL])) Tryz.underlying48 (by rw [Tryz.infoMap, ofL_len])) rfl ⟨rfl, below_setCells (by omega) _ _ _ HB⟩
end Go.Proofs.YtjjfdkdneibjbaaGreatDoor
/- The tidy map of an array: the plain law. -/
namespace Go.Proofs.YtjjfdkdneibjbaaGreatDoor
open Go.RowKit

/-- Does a block go on with the extent ahead of it? -/
def joinB (L : List Int) (k : Nat) : Bool := decide (0 < k) && ((L.getD k 0 == 0 && L.getD (k - 1) 0 == 0) || (decide (0 < L.getD k 0) && decide (0 < L.getD (k - 1) 0) && L.getD k 0 == L.getD (k - 1) 0 + 1))
def grow1 : List Ext → List Ext
  | [] => []
  | [x] => [⟨x.from_, x.n + 1, x.id⟩]
  | x :: y :: l => x :: grow1 (y :: l)
/-- The extents of the first blocks. -/
def extsL (L : List Int) : Nat → List Ext
  | 0 => []
  | k + 1 => if L.getD k 0 < 0 then extsL L k else if joinB L k = true then grow1 (extsL L k) else extsL L k ++ [⟨k, 1, L.getD k 0⟩]
theorem grow1_snoc (l : List Ext) (x : Ext) : grow1 (l ++ [x]) = l ++ [⟨x.from_, x.n + 1, x.id⟩] := by
  induction l with
  | nil => rfl
  | cons y l ih =>
    cases l with
    | nil => rfl
    | cons z l =>
      show y :: grow1 (z :: l ++ [x]) = _
      rw [ih]; rfl
/-- The last extent ends where it should. -/
structure Tidy (L : List Int) (k : Nat) (es : List Ext) : Prop where
  good : ∀ x ∈ es, 0 ≤ x.from_ ∧ 1 ≤ x.n ∧ x.from_ + x.n ≤ (k : Int) ∧ 0 ≤ x.id ∧ x.id + x.n ≤ 61 + (if x.id = 0 then 64 else 0)
  last : 0 < k → 0 ≤ L.getD (k - 1) 0 → ∃ l x, es = l ++ [x] ∧ x.from_ + x.n = (k : Int) ∧ (x.id = 0 ↔ L.getD (k - 1) 0 = 0) ∧ (0 < x.id → x.id + x.n - 1 = L.getD (k - 1) 0)
theorem tidy_ext (L : List Int) (hL : ∀ k, -1 ≤ L.getD k 0 ∧ L.getD k 0 ≤ 60) (k : Nat) (hk : k ≤ 64) : Tidy L k (extsL L k) := by
  induction k with
  | zero => exact ⟨fun x h => by simp [extsL] at h, fun h => by omega⟩
  | succ k ih =>
    have ih := ih (by omega)
    have hb := hL k
    unfold extsL
    by_cases h1 : L.getD k 0 < 0
    · rw [if_pos h1]
      refine ⟨fun x hx => ?_, fun _ h => ?_⟩
      · have := ih.good x hx; omega
      · have : 0 ≤ L.getD k 0 := h
        omega
    · rw [if_neg h1]
      by_cases h2 : joinB L k = true
      · rw [if_pos h2]
        unfold joinB at h2
        simp only [Bool.and_eq_true, Bool.or_eq_true, decide_eq_true_eq, beq_iff_eq] at h2
        obtain ⟨h3, h4⟩ := h2
        obtain ⟨l, x, he, h5, h6, h7⟩ := ih.last h3 (by omega)
        rw [he, grow1_snoc]
        have hg := ih.good x (by rw [he]; simp)
        refine ⟨fun y hy => ?_, fun _ _ => ⟨l, _, rfl, ?_, ?_, fun h => ?_⟩⟩
        · rcases List.mem_append.1 hy with hy | hy
          · have := ih.good y (by rw [he]; exact List.mem_append_left _ hy)
            omega
          · simp only [List.mem_singleton] at hy
            subst hy
            refine ⟨hg.1, by show 1 ≤ x.n + 1; omega, by show x.from_ + (x.n + 1) ≤ _; omega, hg.2.2.2.1, ?_⟩
            show x.id + (x.n + 1) ≤ 61 + (if x.id = 0 then 64 else 0)
            split
            · omega
            · rename_i hx
              have := h7 (by omega)
              have : ¬ L.getD (k - 1) 0 = 0 := fun e => hx (h6.2 e)
              omega
        · show x.from_ + (x.n + 1) = _; omega
        · show x.id = 0 ↔ L.getD k 0 = 0
          rw [h6]; omega
        · have h8 : 0 < x.id := h
          have := h7 h8
          show x.id + (x.n + 1) - 1 = L.getD k 0
          have : ¬ L.getD (k - 1) 0 = 0 := fun e => by have := h6.2 e; omega
          omega
      · rw [if_neg h2]
        refine ⟨fun y hy => ?_, fun _ _ => ⟨_, _, rfl, ?_, ?_, fun h => ?_⟩⟩
        · rcases List.mem_append.1 hy with hy | hy
          · have := ih.good y hy
            omega
          · simp only [List.mem_singleton] at hy
            subst hy
            refine ⟨by show (0 : Int) ≤ k; omega, by show (1 : Int) ≤ 1; omega, by show (k : Int) + 1 ≤ _; omega, by show 0 ≤ L.getD k 0; omega, ?_⟩
            show L.getD k 0 + 1 ≤ 61 + (if L.getD k 0 = 0 then 64 else 0)
            split <;> omega
        · show (k : Int) + 1 = _; omega
        · exact Iff.rfl
        · show L.getD k 0 + 1 - 1 = L.getD k 0; omega
end Go.Proofs.YtjjfdkdneibjbaaGreatDoor
