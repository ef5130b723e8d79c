/- A chain of points that may be: the walk. -/
import Derived.Test.YtdpbjigdihajjaaDoorFitB
import Derived.Deep.CutBlock
namespace Go.Proofs.YtdpbjigdihajjaaDoor
open Go.RowKit

theorem Tryd.infoPtF : (Tryd.prog.info? 79).map (fun i => (i.zero, i.size, i.bytes)) = some (some (.agg #[.int .i64 0, .int .i64 0, .int .i64 0, .slice none 0 0]), 4, 48) := by kernel_rfl
theorem Pts.len_lt {w : World} {B : Nat} {V : Value} {qs : List Pt} (h : Pts w B V qs) : ∀ k, V.ownBlock = some k → k < w.heap.size := fun k hk => (h.own.lt k hk).2
set_option maxHeartbeats 8000000 in
set_option maxRecDepth 100000 in
theorem fit_any (A : Option Addr) (n c : Nat) (ps : List Pt) (bl : Int) (w : World) (hs : Sl ePt w A n c ps) (he : ∀ i (h : i < ps.length), ∃ es, Sl eE w ps[i].eA ps[i].eN ps[i].eC es) (hb1 : 1 ≤ bl) (hb2 : bl ≤ 64) :
    Calls Tryd.prog 21 #[.slice A n c, .int .i64 bl] w fun e w' => ∃ qs A' c', e = .returned (.slice A' qs.length c') ∧ Pts w' w.heap.size (.slice A' qs.length c') qs ∧ qs.length ≤ 12 ∧ Below w.heap.size w w' := by
  obtain ⟨i0, hi, hz0, hz1, hz2⟩ := info_parts Tryd.infoPtF
  have hn := hs.1
  have b1 := hs.2.1
  have b2 := hs.2.2.1
  have R := hide hs.2.2.2
  have Hn := hide hn
  have He := hide he
  clear hs hn he
  go_enter Tryd.func21, Tryd.ntmps21
  go_wp2_with fail
  go_loopw [5, 6, 7] (fun v d j wr => ∃ (k : Nat) (qs : List Pt) (D : Int) (A : Option Addr) (c : Nat), k ≤ n ∧ k ≤ 12 ∧ j = .int .i64 k ∧ d = .int .i64 D ∧ 0 ≤ D ∧ D ≤ 8 * k ∧ qs.length = k ∧ v = .slice A k c ∧ Pts wr w.heap.size (.slice A k c) qs ∧ Below w.heap.size w wr) (fun _ _ j _ => n - (intOf j).toNat)
  case atStart => exact ⟨0, [], 0, none, 0, Nat.zero_le _, Nat.zero_le _, rfl, rfl, by omega, by omega, rfl, rfl, Pts.nil _ _, Below.refl _ _⟩
  case round =>
    obtain ⟨k, qs, D, Av, cv, hk, hk12, rfl, rfl, hD0, hD1, hqs, rfl, hP, HB⟩ := hrel
    have HP := hide hP
    have Hqs := hide hqs
    clear hP hqs
    obtain ⟨wA, rfl⟩ : ∃ wo : World, wo = wr := ⟨_, rfl⟩
    by_cases hlt : k < n
    · by_cases h12 : k < 12
      · have hkp : k < ps.length := by have := unhide Hn; omega
        obtain ⟨b, off, eA, lA, hr⟩ := unhide R (by omega)
        subst eA
        have x1 : wA.cell? ⟨b, off + k * 4 + 1, none⟩ = some (.int .i64 ps[k].kind) := ((bcell HB).1 _ _ lA).trans (hr k hkp 1 (by decide))
        have x2 : wA.cell? ⟨b, off + k * 4 + 2, none⟩ = some (.int .i64 ps[k].day) := ((bcell HB).1 _ _ lA).trans (hr k hkp 2 (by decide))
        have x3 : wA.cell? ⟨b, off + k * 4 + 3, none⟩ = some (.slice ps[k].eA ps[k].eN ps[k].eC) := ((bcell HB).1 _ _ lA).trans (hr k hkp 3 (by decide))
        obtain ⟨es, hes⟩ := unhide He k hkp
        have hes' := hes.below (HB.mono (Nat.le_refl _))
        obtain ⟨kd, hkd⟩ : ∃ y, y = ps[k].kind := ⟨_, rfl⟩
        obtain ⟨dy, hdy⟩ : ∃ y, y = ps[k].day := ⟨_, rfl⟩
        obtain ⟨eA, heA⟩ : ∃ y, y = ps[k].eA := ⟨_, rfl⟩
        obtain ⟨eN, heN⟩ : ∃ y, y = ps[k].eN := ⟨_, rfl⟩
        obtain ⟨eC, heC⟩ : ∃ y, y = ps[k].eC := ⟨_, rfl⟩
        rw [← hkd] at x1
        rw [← hdy] at x2
        rw [← heA, ← heN, ← heC] at x3 hes'
        have Hes := hide hes'
        clear hr hes hes' hkd hdy heA heN heC hkp
        go_wp2_with fail
        refine (of_any eA eN eC es wA (unhide Hes)).mono ?_
        rintro e w2 ⟨rfl, HB2⟩
        have B2 : Below w.heap.size w w2 := HB.trans (HB2.mono HB.size)
        have P2 := hide ((unhide HP).below HB2)
        have y1 := ((bcell HB2).1 _ (off + k * 4 + 1) (by have := HB.size; omega)).trans x1
        have y2 := ((bcell HB2).1 _ (off + k * 4 + 2) (by have := HB.size; omega)).trans x2
        have lb2 : b < w2.heap.size := by have := B2.size; omega
        clear HB2 HP HB x1 x2 x3 Hes
        obtain ⟨w3, hw3⟩ : ∃ W, W = (w2.alloc (.cells (numCells (noneL 0)).toArray 83)).setCells w2.heap.size 0 (numCells (ofL es)) := ⟨_, rfl⟩
        have hl64 : (noneL 0).length = 64 := noneL_len (by omega)
        have a3 : Arr w3 w2.heap.size 83 (ofL es) := by rw [hw3]; exact (Arr.alloc w2 _ (noneL 0)).store (by rw [ofL_len, hl64])
        have B3 : Below w2.heap.size w2 w3 := by rw [hw3]; exact below_setCells (Nat.le_refl _) _ _ _ ((Below.refl _ _).alloc (Nat.le_refl _) _)
        have s3 : w2.heap.size + 1 ≤ w3.heap.size := by rw [hw3, size_setCells]; show _ ≤ (w2.heap.push _).size; simp
        have hl' : (numCells (ofL es)).length = 64 := by rw [numCells_len, ofL_len]
        have Hl' := hide hl'
        have Hl64 := hide hl64
        have H3 := hide a3
        have hIn := hide (InPool.ofL es)
        have HL := hide (ofL_len es)
        clear a3 hl' hl64
        go_wp2_with (refine wpList_store_mid rfl _ _ _ rfl w2.heap.size 0 (numCells (ofL es)).toArray rfl rfl ((Arr.alloc w2 83 (noneL 0)).there (by rw [List.size_toArray, unhide Hl', unhide Hl64])) (by rw [Tryd.infoMap, List.size_toArray, unhide Hl']) (all_oneCell_toArray (numCells_one _)) ?_)
        change Code.wp _ _ _ _ ((w2.alloc (.cells (numCells (noneL 0)).toArray 83)).setCells w2.heap.size 0 (numCells (ofL es)))
        rw [← hw3]
        clear hw3
        obtain ⟨M, hM⟩ : ∃ M, M = ofL es := ⟨_, rfl⟩
        rw [← hM] at H3 hIn HL
        obtain ⟨pm, hpm⟩ : ∃ p, p = w2.heap.size := ⟨_, rfl⟩
        rw [← hpm] at s3 H3 ⊢
        clear hM
        have hPb := hide (show 1 ≤ bl ∧ bl ≤ 64 from ⟨hb1, hb2⟩)
        obtain ⟨NB, rfl⟩ : ∃ NB : Nat, bl = (NB : Int) := ⟨bl.toNat, by omega⟩
        rw [← hpm] at B3
        have hpm1 : w2.heap.size ≤ pm := by omega
        have hpm2 : pm ≤ w2.heap.size := by omega
        have Hpm := hide hpm
        clear hpm
        go_wp2_with fail
        go_loopw [9] (fun j wr => ∃ (q : Nat) (M : List Int), j = .int .i64 q ∧ NB ≤ q ∧ q ≤ 64 ∧ Arr wr pm 83 M ∧ M.length = 64 ∧ InPool M ∧ Below pm w2 wr ∧ pm < wr.heap.size) (fun j _ => (64 - intOf j).toNat)
        case atStart => exact ⟨NB, M, rfl, Nat.le_refl _, by omega, unhide H3, unhide HL, unhide hIn, B3, by omega⟩
        case round =>
          obtain ⟨q, M, rfl, hq1, hq2, hA, hL, hI, HBq, hsz⟩ := hrel
          clear H3 HL hIn B3
          by_cases hlq : q < 64
          · have hql : q < M.length := by omega
            obtain ⟨x, hx⟩ : ∃ x, wr.cell? ⟨pm, q, none⟩ = some (.int .i64 x) := ⟨_, hA.cell hql⟩
            have fq := hA.frozen q
            have hA' := hide (hA.set q (-1))
            have hL' := hide (show (M.set q (-1)).length = 64 by rw [List.length_set]; exact hL)
            have hI' := hide (hI.set q (-1) (by decide))
            have hB' := hide (HBq.setCell (p := ⟨pm, q, none⟩) (Nat.le_refl _) (.int .i64 (-1)))
            have hs' : pm < (wr.setCell ⟨pm, q, none⟩ (.int .i64 (-1))).heap.size := by
              rw [show (wr.setCell ⟨pm, q, none⟩ (.int .i64 (-1))).heap.size = wr.heap.size by simp [World.setCell]]; exact hsz
            clear hA hL hI HBq hql
            go_wp2
            go_roundw
            case rel => exact ⟨q + 1, _, by go_num, by omega, by omega, unhide hA', unhide hL', unhide hI', unhide hB', hs'⟩
            case measure => simp [intOf]; omega
          · obtain rfl : q = 64 := by omega
            obtain ⟨w5, rfl⟩ : ∃ wo : World, wo = wr := ⟨_, rfl⟩
            obtain ⟨pp, hpp⟩ : ∃ p, p = w5.heap.size := ⟨_, rfl⟩
            obtain ⟨w6, hw6⟩ : ∃ W, W = w5.alloc (.cells #[.int .i64 ((k : Int) + 1), .int .i64 2, .int .i64 0, .slice none 0 0] 79) := ⟨_, rfl⟩
            have s6 : w6.heap.size = pp + 1 := by rw [hw6, hpp]; show (w5.heap.push _).size = _; simp
            have A6 : Arr w6 pm 83 M := by rw [hw6]; exact hA.kept (Below.heap_alloc w5 _ _ hsz)
            have B6 : Below pm w2 w6 := by rw [hw6]; exact HBq.alloc (by omega) _
            have c0 : w6.cell? ⟨pp, 0, none⟩ = some (.int .i64 ((k : Int) + 1)) := by rw [hw6, hpp]; exact World.cell?_alloc_at _ _ _ _ rfl
            have c1 : w6.cell? ⟨pp, 1, none⟩ = some (.int .i64 2) := by rw [hw6, hpp]; exact World.cell?_alloc_at _ _ _ _ rfl
            have c2 : w6.cell? ⟨pp, 2, none⟩ = some (.int .i64 0) := by rw [hw6, hpp]; exact World.cell?_alloc_at _ _ _ _ rfl
            have c3 : w6.cell? ⟨pp, 3, none⟩ = some (.slice none 0 0) := by rw [hw6, hpp]; exact World.cell?_alloc_at _ _ _ _ rfl
            have f6 : ∀ j, w6.frozen? ⟨pp, j, none⟩ = false := fun j => by rw [hw6]; exact World.frozen?_alloc_at _ _ _ _ hpp
            have z1 := (World.cell?_of_block (a := ⟨b, off + k * 4 + 1, none⟩) (B6.block b (by omega))).trans y1
            have z2 := (World.cell?_of_block (a := ⟨b, off + k * 4 + 2, none⟩) (B6.block b (by omega))).trans y2
            have hpmp : pm < pp := by omega
            have HA := hide A6
            have HLM := hide hL
            have HIM := hide hI
            have HB6 := hide B6
            have Hs6 := hide s6
            have Hpp := hide hpp
            have Hw6 := hide hw6
            have r1 : -9 < dy.tmod 9 := Int.lt_tmod_of_pos dy (by decide)
            have r2 : dy.tmod 9 < 9 := Int.tmod_lt_of_pos dy (by decide)
            have r3 : 0 ≤ (dy.tmod 9 + 9) % 9 := Int.emod_nonneg _ (by decide)
            have r4 : (dy.tmod 9 + 9) % 9 < 9 := Int.emod_lt_of_pos _ (by decide)
            clear A6 hL hI B6 hA HBq y1 y2 s6 hpp hw6
            go_upto_region 12 with fail
            rw [← unhide Hw6, ← unhide Hpp]
            obtain ⟨FB, hFB⟩ : ∃ F : Bool, (F = true ↔ (k = 0 ∨ kd = 1)) := ⟨decide (k = 0 ∨ kd = 1), by simp⟩
            go_cut [47] from 11 to 78 (fun s47 wx => s47 = .bool FB ∧ wx = w6)
            case first =>
              by_cases hk0 : k = 0
              · have q0 : ((k : Int) == 0) = true := beq_iff_eq.2 (by omega)
                obtain rfl : FB = true := hFB.2 (.inl hk0)
                have Hk0 := hide hk0
                clear hk0 hFB
                go_wp2_with fail
                go_meet
                case rel => exact ⟨rfl, rfl⟩
              · have q0 : ((k : Int) == 0) = false := beq_eq_false_iff_ne.2 (by omega)
                by_cases hkd1 : kd = 1
                · obtain rfl : FB = true := hFB.2 (.inr hkd1)
                  have q1 : (kd == 1) = true := beq_iff_eq.2 hkd1
                  have Hk0 := hide hk0
                  clear hk0 hkd1 hFB
                  go_wp2_with fail
                  go_meet
                  case rel => exact ⟨rfl, rfl⟩
                · obtain rfl : FB = false := by cases FB; rfl; exact absurd (hFB.1 rfl) (by omega)
                  have q1 : (kd == 1) = false := beq_eq_false_iff_ne.2 hkd1
                  have Hk0 := hide hk0
                  clear hk0 hkd1 hFB
                  go_wp2_with fail
                  go_meet
                  case rel => exact ⟨rfl, rfl⟩
            case rest =>
              obtain ⟨rfl, hwc⟩ := hcut
              obtain rfl := hwc.symm
              clear hFB z1
              go_upto_if 47 with fail
              go_cut [] from 11 to 78 (fun wx => ∃ (M : List Int) (kd : Int), Arr wx pm 83 M ∧ M.length = 64 ∧ InPool M ∧ Below pm w2 wx ∧ wx.cell? ⟨pp, 0, none⟩ = some (.int .i64 ((k : Int) + 1)) ∧ wx.cell? ⟨pp, 1, none⟩ = some (.int .i64 kd) ∧
                wx.cell? ⟨pp, 2, none⟩ = some (.int .i64 0) ∧ wx.cell? ⟨pp, 3, none⟩ = some (.slice none 0 0) ∧ (∀ j, wx.frozen? ⟨pp, j, none⟩ = false) ∧ wx.cell? ⟨b, off + k * 4 + 2, none⟩ = some (.int .i64 dy) ∧ pp < wx.heap.size)
              case first =>
                cases FB
                · go_wp2_with fail
                  go_meet
                  case rel => exact ⟨M, 2, unhide HA, unhide HLM, unhide HIM, unhide HB6, c0, c1, c2, c3, f6, z2, by have := unhide Hs6; omega⟩
                · obtain ⟨w7, hw7⟩ : ∃ W, W = w6.setCell ⟨pp, 1, none⟩ (.int .i64 1) := ⟨_, rfl⟩
                  have k7 : ∀ q, q ≠ pp → w7.heap[q]? = w6.heap[q]? := by rw [hw7]; exact fun q hq => Below.heap_setCell w6 ⟨pp, 1, none⟩ _ q hq
                  have A7 := hide ((unhide HA).kept (k7 pm (by omega)))
                  have d0 : w7.cell? ⟨pp, 0, none⟩ = some (.int .i64 ((k : Int) + 1)) := by rw [hw7]; exact (World.cell?_setCell_other w6 ⟨pp, 1, none⟩ ⟨pp, 0, none⟩ _ (by simp)).trans c0
                  have d1 : w7.cell? ⟨pp, 1, none⟩ = some (.int .i64 1) := by rw [hw7]; exact World.cell?_setCell_same _ _ _ c1
                  have d2 : w7.cell? ⟨pp, 2, none⟩ = some (.int .i64 0) := by rw [hw7]; exact (World.cell?_setCell_other w6 ⟨pp, 1, none⟩ ⟨pp, 2, none⟩ _ (by simp)).trans c2
                  have d3 : w7.cell? ⟨pp, 3, none⟩ = some (.slice none 0 0) := by rw [hw7]; exact (World.cell?_setCell_other w6 ⟨pp, 1, none⟩ ⟨pp, 3, none⟩ _ (by simp)).trans c3
                  have d4 : w7.cell? ⟨b, off + k * 4 + 2, none⟩ = some (.int .i64 dy) := (World.cell?_of_block (a := ⟨b, off + k * 4 + 2, none⟩) (k7 b (by show b ≠ pp; omega))).trans z2
                  have B7 : Below pm w2 w7 := by rw [hw7]; exact (unhide HB6).setCell (p := ⟨pp, 1, none⟩) (by show pm ≤ pp; omega) _
                  have s7 : pp < w7.heap.size := by rw [hw7, show (w6.setCell ⟨pp, 1, none⟩ (.int .i64 1)).heap.size = w6.heap.size by simp [World.setCell]]; have := unhide Hs6; omega
                  have g7 : ∀ j, w7.frozen? ⟨pp, j, none⟩ = false := fun j => by rw [hw7]; exact (World.frozen?_setCell _ _ _ _).trans (f6 j)
                  have Hw7 := hide hw7
                  have Hg7 := hide g7
                  have Hk7 := hide k7
                  have HLa := hide (unhide HLM)
                  have H0 := hide d0
                  have H1 := hide d1
                  have H2 := hide d2
                  have H3 := hide d3
                  have H4 := hide d4
                  have HB7 := hide B7
                  have f61 := f6 1
                  clear hw7 g7 k7 d0 d1 d2 d3 d4 B7 f6 c0 c2 c3 z2
                  go_wp2_with fail
                  rw [← unhide Hw7]
                  go_loopw [11] (fun j wr => ∃ (q : Nat) (M : List Int), j = .int .i64 q ∧ q ≤ NB ∧ Arr wr pm 83 M ∧ M.length = 64 ∧ InPool M ∧ Below pm w2 wr ∧ wr.heap[pp]? = w7.heap[pp]? ∧ wr.heap[b]? = w7.heap[b]? ∧ pp < wr.heap.size) (fun j _ => NB - (intOf j).toNat)
                  case atStart => exact ⟨0, M, rfl, Nat.zero_le _, unhide A7, unhide HLM, unhide HIM, unhide HB7, rfl, rfl, s7⟩
                  case round =>
                    obtain ⟨q, M, rfl, hq, hA, hL, hI, HBq, e7, eb, hsz⟩ := hrel
                    clear A7 HLM HIM
                    by_cases hlq : q < NB
                    · have hql : q < M.length := by omega
                      obtain ⟨x, hx⟩ : ∃ x, x = M[q] := ⟨_, rfl⟩
                      have cq : wr.cell? ⟨pm, q, none⟩ = some (.int .i64 x) := by rw [hx]; exact hA.cell hql
                      have fq := hA.frozen q
                      have hxb : -1 ≤ x ∧ x ≤ 60 := by
                        have := hI q
                        rw [List.getD_eq_getElem?_getD, List.getElem?_eq_getElem hql, Option.getD_some, ← hx] at this
                        exact this
                      obtain ⟨y, hy⟩ : ∃ y, max x 0 = y := ⟨_, rfl⟩
                      have hyb : -1 ≤ y ∧ y ≤ 60 := by omega
                      have Hy := hide hy
                      have hA' := hide (hA.set q y)
                      have hL' := hide (show (M.set q y).length = 64 by rw [List.length_set]; exact hL)
                      have hI' := hide (hI.set q y hyb)
                      have hB' := hide (HBq.setCell (p := ⟨pm, q, none⟩) (Nat.le_refl _) (.int .i64 y))
                      have k8 : ∀ r, r ≠ pm → (wr.setCell ⟨pm, q, none⟩ (.int .i64 y)).heap[r]? = wr.heap[r]? := fun r hr => Below.heap_setCell wr ⟨pm, q, none⟩ _ r hr
                      have e8 := hide ((k8 pp (by omega)).trans e7)
                      have e9 := hide ((k8 b (by omega)).trans eb)
                      have hs' : pp < (wr.setCell ⟨pm, q, none⟩ (.int .i64 y)).heap.size := by
                        rw [show (wr.setCell ⟨pm, q, none⟩ (.int .i64 y)).heap.size = wr.heap.size by simp [World.setCell]]; exact hsz
                      clear hA hL hI HBq hql hx hy k8 e7 eb hxb
                      go_wp2_with (refine wpList_max rfl _ _ _ rfl x 0 y rfl rfl (unhide Hy) _ ?_)
                      go_roundw
                      case rel => exact ⟨q + 1, _, by go_num, by omega, unhide hA', unhide hL', unhide hI', unhide hB', unhide e8, unhide e9, hs'⟩
                      case measure => simp [intOf]; omega
                    · have hA' := hide hA
                      have hI' := hide hI
                      have hL' := hide hL
                      have hB' := hide HBq
                      have e7' := hide e7
                      have eb' := hide eb
                      clear hA hI hL HBq e7 eb
                      go_wp2_with fail
                      go_meet
                      case rel =>
                        refine ⟨M, 1, unhide hA', unhide hL', unhide hI', unhide hB', (World.cell?_of_block (a := ⟨pp, 0, none⟩) (unhide e7')).trans (unhide H0), (World.cell?_of_block (a := ⟨pp, 1, none⟩) (unhide e7')).trans (unhide H1),
                          (World.cell?_of_block (a := ⟨pp, 2, none⟩) (unhide e7')).trans (unhide H2), (World.cell?_of_block (a := ⟨pp, 3, none⟩) (unhide e7')).trans (unhide H3), fun j => ?_, (World.cell?_of_block (a := ⟨b, off + k * 4 + 2, none⟩) (unhide eb')).trans (unhide H4), hsz⟩
                        exact (World.frozen?_of_block (a := ⟨pp, j, none⟩) (unhide e7')).trans (unhide Hg7 j)
              case rest =>
                obtain ⟨M2, kd2, hA2, hL2, hI2, hB2, d0, d1, d2, d3, g7, d4, s7⟩ := hcut
                have hpn : pm ≠ pp := by omega
                obtain ⟨w9, rfl⟩ : ∃ wo : World, wo = wc := ⟨_, rfl⟩
                have HA2 := hide hA2
                have HL2 := hide hL2
                have HI2 := hide hI2
                have hPm : pm = w2.heap.size := unhide Hpm
                have B29 : Below w2.heap.size w2 w9 := by rw [← hPm]; exact hB2
                have HB29 := hide B29
                have hDn : 0 ≤ dy.tmod 9 % 9 := Int.emod_nonneg _ (by decide)
                have hDl : dy.tmod 9 % 9 < 9 := Int.emod_lt_of_pos _ (by decide)
                obtain ⟨E, hE⟩ : ∃ E, E = extsL M2 64 := ⟨_, rfl⟩
                have hEf := exts_fine M2 hI2
                rw [← hE] at hEf
                have HEf := hide hEf
                have hext : ∀ w1 : World, Calls Tryd.prog 40 #[arrV M2] w1 fun e w' => ∃ A c, e = .returned (.slice A E.length c) ∧ Own eE 81 w' w1.heap.size (.slice A E.length c) E ∧ Below w1.heap.size w1 w' := fun w1 => by
                  rw [hE]; exact extents_any M2 hL2 hI2 w1
                have Hext := hide hext
                have hs29 : w.heap.size ≤ w2.heap.size := B2.size
                have hs2 : w2.heap.size ≤ w9.heap.size := B29.size
                clear hA2 hL2 hI2 hB2 HA HLM HIM HB6 hPm B29 hE hEf hext
                go_wp2_with (first | (refine wpList_load_mid rfl _ _ rfl pm 0 rfl (numCells M2) _ (unhide HA2).range Tryd.underlying83 rfl (by rw [Tryd.infoMap, numCells_len, unhide HL2]) ?_) | (go_at_call 40; refine (unhide Hext _).mono ?_; rintro e w8 ⟨A8, c8, he8, hO8, HB8⟩; subst he8; have e0 := ((bcell HB8).1 pp 0 s7).trans d0; have e1 := ((bcell HB8).1 pp 1 s7).trans d1; have e2 := ((bcell HB8).1 pp 2 s7).trans d2; have e3 := ((bcell HB8).1 pp 3 s7).trans d3; have g2 := ((bcell HB8).2 pp 2 s7).trans (g7 2); have g3 := ((bcell HB8).2 pp 3 s7).trans (g7 3); have HO8 := hide hO8; have HB9 := hide HB8; clear hO8 HB8) | (at_builtin; refine wpList_append_one ePt rfl _ _ _ rfl w.heap.size 79 i0 _ 48 Tryd.underlying43 hi hz0 hz1 hz2 rfl (by decide) (.slice Av k cv) qs rfl _ ?cO ⟨(k : Int) + 1, kd2, D + dy.tmod 9 % 9, A8, E.length, c8⟩ #[.int .i64 ((k : Int) + 1), .int .i64 kd2, .int .i64 (D + dy.tmod 9 % 9), .slice A8 E.length c8] rfl (by simp [Act.eval]) (by intro u hu; simp at hu; rcases hu with rfl | rfl | rfl | rfl <;> rfl) ?c3 ?c4 ?c5 ?_))
                case cO =>
                  refine Own.same_block (((unhide P2).below ((unhide HB29).trans ((unhide HB9).mono hs2))).own) fun q hq => ?_
                  have hq2 := ((unhide P2).own.lt q hq).2
                  exact (Below.heap_setCell _ ⟨pp, 3, none⟩ _ q (by show q ≠ pp; omega)).trans (Below.heap_setCell _ ⟨pp, 2, none⟩ _ q (by show q ≠ pp; omega))
                case c3 => rw [unhide Hqs]; unfold maxLen; omega
                case c4 => rw [unhide Hqs]; omega
                case c5 =>
                  have := (unhide HB9).size
                  simp [World.setCell]
                  omega
                intro v4 w4 hown4 hgr4 hloc4
                have hs98 : w9.heap.size ≤ w8.heap.size := (unhide HB9).size
                obtain ⟨W, hW⟩ : ∃ W, W = (w8.setCell ⟨pp, 2, none⟩ (.int .i64 (D + dy.tmod 9 % 9))).setCell ⟨pp, 3, none⟩ (.slice A8 E.length c8) := ⟨_, rfl⟩
                rw [← hW] at hgr4
                have hWs : W.heap.size = w8.heap.size := by rw [hW]; simp [World.setCell]
                have k9 : ∀ q, q ≠ pp → W.heap[q]? = w8.heap[q]? := fun q hq => by
                  rw [hW]
                  exact (Below.heap_setCell _ ⟨pp, 3, none⟩ _ q hq).trans (Below.heap_setCell _ ⟨pp, 2, none⟩ _ q hq)
                have B8 : Below w2.heap.size w2 w8 := (unhide HB29).trans ((unhide HB9).mono hs2)
                have BW : Below w2.heap.size w2 W := by
                  rw [hW]
                  exact (B8.setCell (p := ⟨pp, 2, none⟩) (by show _ ≤ pp; omega) _).setCell (p := ⟨pp, 3, none⟩) (by show _ ≤ pp; omega) _
                have PW := (unhide P2).below BW
                have hOW := (unhide HO8).same_block (w' := W) fun q hq => k9 q (by have := ((unhide HO8).lt q hq).1; omega)
                have PF := PW.snoc (w0 := w9) hOW (unhide HEf) (fun q hq => by have := ((unhide P2).own.lt q hq).2; omega) (by omega) hown4 hgr4 (by rw [hWs]; exact hloc4)
                have BwW : Below w.heap.size w W := B2.trans (BW.mono hs29)
                have B4 : Below w.heap.size w w4 := (BwW.alloc (by omega) _).grown hgr4 (BwW.alloc (by omega) _).size fun q hq => (PW.own.lt q hq).1
                obtain ⟨A5, c5, hv5, _⟩ := hown4.sl
                have hlen : (qs ++ [(⟨(k : Int) + 1, kd2, D + dy.tmod 9 % 9, A8, E.length, c8⟩ : Pt)]).length = k + 1 := by rw [List.length_append, unhide Hqs]; rfl
                rw [hlen] at hv5
                subst hv5
                have HPF := hide PF
                have Hlen := hide hlen
                clear hown4 hgr4 hloc4 hWs k9 B8 BW PW hOW PF BwW hlen hW e0 e1 e2 e3 g2 g3 d0 d1 d2 d3 g7 d4
                go_wp2
                go_roundw
                case rel =>
                  exact ⟨k + 1, qs ++ [⟨(k : Int) + 1, kd2, D + dy.tmod 9 % 9, A8, E.length, c8⟩], D + dy.tmod 9 % 9, A5, c5, by omega, by omega, by go_num, rfl, by omega, by omega, unhide Hlen, rfl, unhide HPF, B4⟩
                case measure => simp [intOf]; omega
      · obtain rfl : k = 12 := by omega
        go_wp2
        go_ret
        exact ⟨qs, Av, cv, by rw [unhide Hqs]; rfl, by rw [unhide Hqs]; exact unhide HP, by rw [unhide Hqs]; omega, HB⟩
    · obtain rfl : k = n := by omega
      go_wp2
      go_ret
      exact ⟨qs, Av, cv, by rw [unhide Hqs]; rfl, by rw [unhide Hqs]; exact unhide HP, by rw [unhide Hqs]; exact hk12, HB⟩
end Go.Proofs.YtdpbjigdihajjaaDoor
