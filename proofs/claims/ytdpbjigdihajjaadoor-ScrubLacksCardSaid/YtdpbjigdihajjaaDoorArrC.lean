/- A map's blocks are set: the walk. -/
import Derived.Test.YtdpbjigdihajjaaDoorArrB
namespace Go.Proofs.YtdpbjigdihajjaaDoor
open Go.RowKit

/-- So many of an extent's blocks are set. -/
def setTo (L : List Int) (f : Nat) (i : Int) : Nat → List Int
  | 0 => L
  | k + 1 => (setTo L f i k).set (f + k) (if 0 < i then i + k else 0)
theorem setTo_len (L : List Int) (f : Nat) (i : Int) (k : Nat) : (setTo L f i k).length = L.length := by
  induction k with
  | zero => rfl
  | succ k ih => rw [setTo, List.length_set, ih]
/-- A map with an extent set in it. -/
def setL (L : List Int) (f n i : Int) : List Int := if aloneB f n i = true then setTo L f.toNat i n.toNat else L
theorem setL_len (L : List Int) (f n i : Int) : (setL L f n i).length = L.length := by
  unfold setL; split
  · exact setTo_len _ _ _ _
  · rfl
theorem alone_bd {f n i : Int} (h : aloneB f n i = true) : 0 ≤ f ∧ 1 ≤ n ∧ f + n ≤ 64 ∧ 0 ≤ i ∧ i ≤ 60 := by
  unfold aloneB wholeB at h
  simp at h
  omega
set_option maxHeartbeats 4000000 in
set_option maxRecDepth 100000 in
theorem set_any (L : List Int) (hL : L.length = 64) (f n i : Int) (w : World) : Calls Tryd.prog 64 #[arrV L, .agg #[.int .i64 f, .int .i64 n, .int .i64 i]] w fun e w' => e = .returned (arrV (setL L f n i)) ∧ Below w.heap.size w w' := by
  obtain ⟨w1, hw1⟩ : ∃ w1, w1 = w.alloc (.cells (numCells L).toArray 83) := ⟨_, rfl⟩
  obtain ⟨w2, hw2⟩ : ∃ w2, w2 = w1.alloc (.cells #[.int .i64 f, .int .i64 n, .int .i64 i] 81) := ⟨_, rfl⟩
  have B1 : Below w.heap.size w w1 := by rw [hw1]; exact (Below.refl _ _).alloc (Nat.le_refl _) _
  have s1 : w1.heap.size = w.heap.size + 1 := by rw [hw1]; show (w.heap.push _).size = _; simp
  have s2 : w2.heap.size = w1.heap.size + 1 := by rw [hw2]; show (w1.heap.push _).size = _; simp
  have a1 : Arr w1 w.heap.size 83 L := by rw [hw1]; exact Arr.alloc w _ _
  have B2 : Below w.heap.size w w2 := by rw [hw2]; exact B1.alloc (by omega) _
  have a2 : Arr w2 w.heap.size 83 L := by rw [hw2]; exact a1.kept (Below.heap_alloc w1 _ _ (by omega))
  have c0 : w2.cell? ⟨w.heap.size + 1, 0, none⟩ = some (.int .i64 f) := by rw [hw2, ← s1]; exact World.cell?_alloc_at _ _ _ _ rfl
  have c1 : w2.cell? ⟨w.heap.size + 1, 1, none⟩ = some (.int .i64 n) := by rw [hw2, ← s1]; exact World.cell?_alloc_at _ _ _ _ rfl
  have c2 : w2.cell? ⟨w.heap.size + 1, 2, none⟩ = some (.int .i64 i) := by rw [hw2, ← s1]; exact World.cell?_alloc_at _ _ _ _ rfl
  obtain ⟨w3, hw3⟩ : ∃ w3, w3 = w2.alloc (.cells (numCells (noneL 0)).toArray 83) := ⟨_, rfl⟩
  have B3 : Below w.heap.size w w3 := by rw [hw3]; exact B2.alloc (by omega) _
  have a3 : Arr w3 w.heap.size 83 L := by rw [hw3]; exact a2.kept (Below.heap_alloc w2 _ _ (by omega))
  have a4 : Arr w3 (w.heap.size + 1 + 1) 83 (noneL 0) := by rw [hw3, ← s1, ← s2]; exact Arr.alloc w2 _ _
  have Bx : Below w2.heap.size w2 w3 := by rw [hw3]; exact (Below.refl _ _).alloc (Nat.le_refl _) _
  have e0 := ((bcell Bx).1 (w.heap.size + 1) 0 (by omega)).trans c0
  have e1 := ((bcell Bx).1 (w.heap.size + 1) 1 (by omega)).trans c1
  have e2 := ((bcell Bx).1 (w.heap.size + 1) 2 (by omega)).trans c2
  have s3 : w.heap.size + 3 ≤ w3.heap.size := by rw [hw3]; show _ ≤ (w2.heap.push _).size; simp; omega
  have HA3 := hide a3
  have HA4 := hide a4
  clear a1 a2 a3 a4 c0 c1 c2 Bx B1 B2
  have Hs1 := hide s1
  have Hs2 := hide s2
  clear s1 s2
  by_cases ha : aloneB f n i = true
  · obtain ⟨f0, n1, fn, i0, i60⟩ := alone_bd ha
    obtain ⟨F, rfl⟩ : ∃ F : Nat, f = (F : Int) := ⟨f.toNat, by omega⟩
    obtain ⟨N, rfl⟩ : ∃ N : Nat, n = (N : Int) := ⟨n.toNat, by omega⟩
    have hs : setL L F N i = setTo L F i N := by unfold setL; rw [if_pos ha]; simp
    rw [hs]
    have Ha := hide ha
    clear hs ha
    change Calls _ _ #[.agg (numCells L).toArray, .agg #[.int .i64 F, .int .i64 N, .int .i64 i]] w _
    go_enter Tryd.func64, Tryd.ntmps64
    go_wp2_with fail
    change Code.wp _ _ _ _ (((w.alloc (.cells (numCells L).toArray 83)).alloc (.cells #[.int .i64 F, .int .i64 N, .int .i64 i] 81)).alloc (.cells (numCells (noneL 0)).toArray 83))
    rw [← hw1, ← hw2, ← hw3]
    clear hw1 hw2 hw3
    go_loopw [5] (fun j wr => ∃ k : Nat, k ≤ N ∧ j = .int .i64 k ∧ Arr wr w.heap.size 83 (setTo L F i k) ∧ Arr wr (w.heap.size + 1 + 1) 83 (noneL 0) ∧ wr.cell? ⟨w.heap.size + 1, 0, none⟩ = some (.int .i64 F) ∧ wr.cell? ⟨w.heap.size + 1, 1, none⟩ = some (.int .i64 N) ∧ wr.cell? ⟨w.heap.size + 1, 2, none⟩ = some (.int .i64 i) ∧ Below w.heap.size w wr ∧ w.heap.size + 3 ≤ wr.heap.size) (fun j _ => N - (intOf j).toNat)
    case atStart => exact ⟨0, Nat.zero_le _, rfl, unhide HA3, unhide HA4, e0, e1, e2, B3, s3⟩
    case round =>
      obtain ⟨k, hk, rfl, r1, r2, q0, q1, q2, HB, hsz⟩ := hrel
      have R1 := hide r1
      have R2 := hide r2
      clear r1 r2
      go_wp2_with fail
      refine (alone_any F N i wr).mono ?_
      rintro e w4 ⟨rfl, HB4⟩
      have g3 := hide ((unhide R1).below HB4)
      have g4 := hide ((unhide R2).below HB4)
      have p0 := ((bcell HB4).1 (w.heap.size + 1) 0 (by omega)).trans q0
      have p1 := ((bcell HB4).1 (w.heap.size + 1) 1 (by omega)).trans q1
      have p2 := ((bcell HB4).1 (w.heap.size + 1) 2 (by omega)).trans q2
      have B4 : Below w.heap.size w w4 := HB.trans (HB4.mono (by omega))
      have s4 : w.heap.size + 3 ≤ w4.heap.size := Nat.le_trans hsz HB4.size
      rw [unhide Ha]
      clear HB4 q0 q1 q2
      by_cases hlt : k < N
      · have hfk : F + k < (setTo L F i k).length := by rw [setTo_len, hL]; omega
        obtain ⟨x, hx⟩ : ∃ x, w4.cell? ⟨w.heap.size, F + k, none⟩ = some (.int .i64 x) := ⟨_, (unhide g3).cell hfk⟩
        have f1 := (unhide g3).frozen (F + k)
        have h1 := (unhide g3).set (F + k) 0
        have oth : ∀ (W : World) (v : Value) (q : Nat), q ≠ w.heap.size → (W.setCell ⟨w.heap.size, F + k, none⟩ v).heap[q]? = W.heap[q]? := fun W v q hq => Below.heap_setCell W ⟨w.heap.size, F + k, none⟩ v q hq
        by_cases hip : 0 < i
        · have hset := hide (show setTo L F i (k + 1) = (setTo L F i k).set (F + k) (i + k) by rw [setTo, if_pos hip])
          obtain ⟨w6, hw6⟩ : ∃ W, W = (w4.setCell ⟨w.heap.size, F + k, none⟩ (.int .i64 0)).setCell ⟨w.heap.size, F + k, none⟩ (.int .i64 (i + k)) := ⟨_, rfl⟩
          have o6 : ∀ q, q ≠ w.heap.size → w6.heap[q]? = w4.heap[q]? := by rw [hw6]; exact fun q hq => (oth _ _ q hq).trans (oth w4 _ q hq)
          have k0 := (World.cell?_of_block (a := ⟨w.heap.size + 1, 0, none⟩) (o6 _ (by simp))).trans p0
          have k1 := (World.cell?_of_block (a := ⟨w.heap.size + 1, 1, none⟩) (o6 _ (by simp))).trans p1
          have k2 := (World.cell?_of_block (a := ⟨w.heap.size + 1, 2, none⟩) (o6 _ (by simp))).trans p2
          have B6 : Below w.heap.size w w6 := by rw [hw6]; exact (B4.setCell (p := ⟨w.heap.size, F + k, none⟩) (Nat.le_refl _) _).setCell (p := ⟨w.heap.size, F + k, none⟩) (Nat.le_refl _) _
          have s6 : w.heap.size + 3 ≤ w6.heap.size := by rw [hw6, show ((w4.setCell ⟨w.heap.size, F + k, none⟩ (.int .i64 0)).setCell ⟨w.heap.size, F + k, none⟩ (.int .i64 (i + k))).heap.size = w4.heap.size by simp [World.setCell]]; exact s4
          have h5 : Arr w6 w.heap.size 83 (setTo L F i (k + 1)) := by
            have h2 := h1.set (F + k) (i + k)
            rw [List.set_set] at h2
            rw [unhide hset, hw6]
            exact h2
          have h6 := hide ((unhide g4).kept (o6 _ (by omega)))
          have H5 := hide h5
          clear h1 h5 oth hfk g3
          go_wp2
          rw [← hw6]
          go_roundw
          case rel => exact ⟨k + 1, by omega, by go_num, unhide H5, unhide h6, k0, k1, k2, B6, s6⟩
          case measure => simp [intOf]; omega
        · have hset := hide (show setTo L F i (k + 1) = (setTo L F i k).set (F + k) 0 by rw [setTo, if_neg hip])
          obtain ⟨w5, hw5⟩ : ∃ W, W = w4.setCell ⟨w.heap.size, F + k, none⟩ (.int .i64 0) := ⟨_, rfl⟩
          have o5 : ∀ q, q ≠ w.heap.size → w5.heap[q]? = w4.heap[q]? := by rw [hw5]; exact oth w4 _
          have k0 := (World.cell?_of_block (a := ⟨w.heap.size + 1, 0, none⟩) (o5 _ (by simp))).trans p0
          have k1 := (World.cell?_of_block (a := ⟨w.heap.size + 1, 1, none⟩) (o5 _ (by simp))).trans p1
          have k2 := (World.cell?_of_block (a := ⟨w.heap.size + 1, 2, none⟩) (o5 _ (by simp))).trans p2
          have B5 : Below w.heap.size w w5 := by rw [hw5]; exact B4.setCell (p := ⟨w.heap.size, F + k, none⟩) (Nat.le_refl _) _
          have s5 : w.heap.size + 3 ≤ w5.heap.size := by rw [hw5, show (w4.setCell ⟨w.heap.size, F + k, none⟩ (.int .i64 0)).heap.size = w4.heap.size by simp [World.setCell]]; exact s4
          have h5 : Arr w5 w.heap.size 83 (setTo L F i (k + 1)) := by rw [unhide hset, hw5]; exact h1
          have h6 := hide ((unhide g4).kept (o5 _ (by omega)))
          have H5 := hide h5
          clear h1 h5 oth hfk g3
          go_wp2
          rw [← hw5]
          go_roundw
          case rel => exact ⟨k + 1, by omega, by go_num, unhide H5, unhide h6, k0, k1, k2, B5, s5⟩
          case measure => simp [intOf]; omega
      · have hkn : k = N := by omega
        subst hkn
        have hl : (setTo L F i k).length = 64 := by rw [setTo_len, hL]
        have hl' : (numCells (setTo L F i k)).length = 64 := by rw [numCells_len, hl]
        have Hl := hide hl
        have Hl' := hide hl'
        clear hl hl'
        go_wp2_with (first | (refine wpList_load_mid rfl _ _ rfl w.heap.size 0 rfl (numCells (setTo L F i k)) _ (unhide g3).range Tryd.underlying83 rfl (by rw [Tryd.infoMap, unhide Hl']) ?_) | (refine wpList_store_mid rfl _ _ _ rfl (w.heap.size + 1 + 1) 0 (numCells (setTo L F i k)).toArray rfl rfl ((unhide g4).there (by rw [List.size_toArray, unhide Hl']; simp [noneL])) (by rw [Tryd.infoMap, List.size_toArray, unhide Hl']) (all_oneCell_toArray (numCells_one _)) ?_))
        refine bodyPost_ret (v := arrV (setTo L F i k)) (results_arr Tryd.results64 rfl ((unhide g4).store (by rw [unhide Hl]; simp [noneL])) Tryd.underlying83 (by rw [Tryd.infoMap, unhide Hl])) rfl ⟨rfl, below_setCells (by omega) _ _ _ B4⟩
  · have ha' : aloneB f n i = false := by simpa using ha
    have hs : setL L f n i = L := by unfold setL; rw [ha']; rfl
    rw [hs]
    clear ha hs
    change Calls _ _ #[.agg (numCells L).toArray, .agg #[.int .i64 f, .int .i64 n, .int .i64 i]] w _
    go_enter Tryd.func64, Tryd.ntmps64
    go_wp2_with fail
    change Code.wp _ _ _ _ (((w.alloc (.cells (numCells L).toArray 83)).alloc (.cells #[.int .i64 f, .int .i64 n, .int .i64 i] 81)).alloc (.cells (numCells (noneL 0)).toArray 83))
    rw [← hw1, ← hw2, ← hw3]
    clear hw1 hw2 hw3
    go_loopw [5] (fun j wr => j = .int .i64 0 ∧ wr = w3) (fun _ _ => 0)
    case atStart => exact ⟨rfl, rfl⟩
    case round =>
      obtain ⟨rfl, hwr⟩ := hrel
      obtain rfl := hwr.symm
      go_wp2_with fail
      refine (alone_any f n i w3).mono ?_
      rintro e w4 ⟨rfl, HB4⟩
      have g3 := hide ((unhide HA3).below HB4)
      have g4 := hide ((unhide HA4).below HB4)
      have B4 : Below w.heap.size w w4 := B3.trans (HB4.mono (by omega))
      rw [ha']
      clear HB4
      go_wp2_with (first | (refine wpList_load_mid rfl _ _ rfl w.heap.size 0 rfl (numCells L) _ (unhide g3).range Tryd.underlying83 rfl (by rw [Tryd.infoMap, numCells_len, hL]) ?_) | (refine wpList_store_mid rfl _ _ _ rfl (w.heap.size + 1 + 1) 0 (numCells L).toArray rfl rfl ((unhide g4).there (by simp [numCells, noneL, hL])) (by rw [Tryd.infoMap]; simp [numCells, hL]) (all_oneCell_toArray (numCells_one _)) ?_))
      refine bodyPost_ret (v := arrV L) (results_arr Tryd.results64 rfl ((unhide g4).store (by simp [noneL, hL])) Tryd.underlying83 (by rw [Tryd.infoMap, hL])) rfl ⟨rfl, below_setCells (by omega) _ _ _ B4⟩
end Go.Proofs.YtdpbjigdihajjaaDoor
