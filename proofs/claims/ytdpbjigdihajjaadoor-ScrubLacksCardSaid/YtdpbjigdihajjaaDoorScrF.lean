/- A look at one block. -/
import Derived.Test.YtdpbjigdihajjaaDoorScrE
namespace Go.Proofs.YtdpbjigdihajjaaDoor
open Go.RowKit

/-- Blocks that were there and may change, and new ones behind so many. -/
def Sep (F : Nat → Prop) (m m' : Nat) : Nat → Prop := fun k => (F k ∧ k < m) ∨ m' ≤ k
theorem wrap_small {x : Int} (h0 : 0 ≤ x) (h1 : x ≤ 1000000) : IntKind.i64.wrap (x + 1) = x + 1 := by
  simp [IntKind.wrap, IntKind.bits, IntKind.signed]
  omega
theorem run_lkB {w : World} {b : Nat} {X : List (ByteArray × Int)} (h : MapIs kStr w b (nV X)) (t : ByteArray) (y : Int) (hy : atN X t = y) : (Instr.lookup 34 (.map (some b)) (.string t) false).run Tryd.prog w = .ok (.int .i64 y) w := by
  rw [← hy]
  exact lk_run kStr Tryd.underlying34 Tryd.underlying9 zeroIntW h t
theorem run_lkT {w : World} {b : Nat} {X : List (Int × Int)} (h : MapIs kInt w b (nV X)) (t : Int) (y : Int) (hy : atN X t = y) : (Instr.lookup 86 (.map (some b)) (.int .i64 t) false).run Tryd.prog w = .ok (.int .i64 y) w := by
  rw [← hy]
  exact lk_run kInt Tryd.underlying86 Tryd.underlying3 zeroIntW h t
set_option maxHeartbeats 8000000 in
set_option maxRecDepth 100000 in
theorem block_any {w : World} {F : Nat → Prop} {p bw bb bt : Nat} {T : List (Int × Int)} {X : List (ByteArray × Int)} {Y : List (Int × Int)} {v : Value} {out : List (Int × Int)} (id rf : Int) (tx : ByteArray) (h : LookAt w F p bw bb bt T X Y v out) (hF : ∀ k, w.heap.size ≤ k → F k) (hl : out.length ≤ 90000)
    (hx : 0 ≤ atN X tx ∧ atN X tx ≤ 100000) (hy : 0 ≤ atN Y id ∧ atN Y id ≤ 100000) (hs : tx.size ≤ 1000000) :
    Calls Tryd.prog 44 #[.pointer (some ⟨p, 0, none⟩), .agg #[.int .i64 id, .int .i64 rf, .string tx]] w fun e w' => e = .returned (.tuple #[]) ∧
      (∃ v' Y', LookAt w' F p bw bb bt T (putN X tx (atN X tx + 1)) Y' v' (out ++ ((if zeroB tx = true then [(1, id)] else []) ++ ((if 0 < atN X tx then [(2, id)] else []) ++ badE (atN T) ⟨id, rf, tx⟩))) ∧ (∀ j, j ≠ id → atN Y' j = atN Y j) ∧ atN Y id < atN Y' id ∧ atN Y' id ≤ atN Y id + 2) ∧ Chg F w w' := by
  obtain ⟨W1, hW1⟩ : ∃ W, W = w.alloc (.cells #[.int .i64 id, .int .i64 rf, .string tx] 51) := ⟨_, rfl⟩
  have B1 : Below w.heap.size w W1 := by rw [hW1]; exact (Below.refl _ _).alloc (Nat.le_refl _) _
  have s1 : W1.heap.size = w.heap.size + 1 := by rw [hW1]; simp
  have d0 : W1.cell? ⟨w.heap.size, 0, none⟩ = some (.int .i64 id) := by rw [hW1]; exact World.cell?_alloc_at _ _ _ _ rfl
  have d1 : W1.cell? ⟨w.heap.size, 1, none⟩ = some (.int .i64 rf) := by rw [hW1]; exact World.cell?_alloc_at _ _ _ _ rfl
  have d2 : W1.cell? ⟨w.heap.size, 2, none⟩ = some (.string tx) := by rw [hW1]; exact World.cell?_alloc_at _ _ _ _ rfl
  obtain ⟨G, hG⟩ : ∃ G, G = Sep F w.heap.size (w.heap.size + 1) := ⟨_, rfl⟩
  have hG1 : ∀ k, w.heap.size + 1 ≤ k → G k := fun k hk => by rw [hG]; exact .inr hk
  have hG2 : ¬ G w.heap.size := by rw [hG]; rintro (⟨_, h⟩ | h) <;> omega
  have hG3 : ∀ k, G k → F k := fun k hk => by
    rw [hG] at hk
    rcases hk with h | h
    · exact h.1
    · exact hF k (by omega)
  have L1 : LookAt W1 G p bw bb bt T X Y v out := (h.mono (G := G) fun k h1 h2 => by rw [hG]; exact .inl ⟨h2, h1⟩).below B1
  obtain ⟨x, hxx⟩ : ∃ x, atN X tx = x := ⟨_, rfl⟩
  obtain ⟨y, hyy⟩ : ∃ y, atN Y id = y := ⟨_, rfl⟩
  obtain ⟨t, htt⟩ : ∃ y, atN T id = y := ⟨_, rfl⟩
  rw [hxx] at hx ⊢
  rw [hyy] at hy ⊢
  obtain ⟨z, hz⟩ : ∃ z, zeroB tx = z := ⟨_, rfl⟩
  have hzero : ∀ w1 : World, Calls Tryd.prog 29 #[.string tx] w1 fun e w' => e = .returned (.bool z) ∧ ∃ q, w' = w1.drewN q := fun w1 => by
    cases z with
    | true => exact zero_yes tx w1 hs hz
    | false => exact zero_no tx w1 hs hz
  rw [hz]
  have hbad : badE (atN T) ⟨id, rf, tx⟩ = if t = 0 then [(5, id)] else if t ≠ rf then [(3, id)] else [] := by unfold badE; rw [htt]
  rw [hbad]
  obtain ⟨Ofin, hOfin⟩ : ∃ O, O = out ++ ((if z = true then [(1, id)] else []) ++ ((if 0 < x then [(2, id)] else []) ++ (if t = 0 then [(5, id)] else if t ≠ rf then [(3, id)] else []))) := ⟨_, rfl⟩
  rw [← hOfin]
  have HOfin := hide hOfin
  obtain ⟨hx0, hx1⟩ := hx
  obtain ⟨hy0, hy1⟩ := hy
  have Hxx := hide hxx
  have Hyy := hide hyy
  have Htt := hide htt
  have HL1 := hide L1
  have HW1 := hide hW1
  have HG1 := hide hG1
  have HG2 := hide hG2
  have HG3 := hide hG3
  have Hz := hide hzero
  have HB1 := hide B1
  have Hs1 := hide s1
  clear hOfin hW1 hG hG1 hG2 hG3 L1 hxx hyy htt hz hzero hbad B1 h hF s1
  have e2 : (w.alloc (.cells #[.int .i64 id, .int .i64 rf, .string tx] 51)).cell? ⟨w.heap.size, 2, none⟩ = some (.string tx) := World.cell?_alloc_at _ _ _ _ rfl
  go_enter Tryd.func44, Tryd.ntmps44
  go_upto_if 7 with (go_at_call 29; refine (unhide Hz _).mono ?_; rintro e w2 ⟨he, q, hw⟩; subst he; rw [← unhide HW1] at hw; subst hw)
  have L2 := (unhide HL1).drewN q
  have HL2 := hide L2
  clear L2 e2
  go_cut [] from 5 (fun wx => ∃ v1, LookAt wx G p bw bb bt T X Y v1 (out ++ (if z = true then [(1, id)] else [])) ∧ Chg G W1 wx)
  case first =>
    cases z
    · go_wp2_with fail
      go_meet
      case rel => exact ⟨v, by simpa using unhide HL2, Chg.of_below (below_drewN (Below.refl _ _) q)⟩
    · have d0q : (W1.drewN q).cell? ⟨w.heap.size, 0, none⟩ = some (.int .i64 id) := d0
      go_wp2_with (go_at_call 45; refine (addF_any 1 id (unhide HL2) (fun k hk => unhide HG1 k (by have := unhide Hs1; have e : (W1.drewN q).heap.size = W1.heap.size := rfl; omega)) (by omega)).mono ?_; rintro e w3 ⟨he, hL3, hC3⟩; subst he; have HL3 := hide hL3; have HC3 := hide hC3; clear hL3 hC3)
      go_meet
      case rel =>
        obtain ⟨v1, hv1⟩ := unhide HL3
        exact ⟨v1, hv1, (Chg.of_below (below_drewN (Below.refl _ _) q)).trans (unhide HC3)⟩
  case rest =>
    obtain ⟨v1, hL, hC⟩ := hcut
    obtain ⟨w2, rfl⟩ : ∃ wo : World, wo = wc := ⟨_, rfl⟩
    have sC := hC.size
    have bx : w2.heap[w.heap.size]? = W1.heap[w.heap.size]? := hC.block _ (by have := unhide Hs1; omega) (unhide HG2)
    have b0 : w2.cell? ⟨w.heap.size, 0, none⟩ = some (.int .i64 id) := (World.cell?_of_block (a := ⟨w.heap.size, 0, none⟩) bx).trans d0
    have b2 : w2.cell? ⟨w.heap.size, 2, none⟩ = some (.string tx) := (World.cell?_of_block (a := ⟨w.heap.size, 2, none⟩) bx).trans d2
    have a1 := hL.c1
    have lkb : ∀ n, (Instr.lookup 34 (.map (some bb)) (.string tx) false).run Tryd.prog (w2.drewN n) = .ok (.int .i64 x) (w2.drewN n) := fun n => run_lkB (hL.drewN n).mb tx x (unhide Hxx)
    have HLa := hide hL
    have HCa := hide hC
    have Hd0 := hide d0
    have Hd1 := hide d1
    have Hd2 := hide d2
    clear hL hC bx d0 d1 d2
    go_wp2_with fail
    go_quiet (fail)
    go_upto_if 19 with fail
    go_cut [] from 5 (fun wx => ∃ v2, LookAt wx G p bw bb bt T X Y v2 ((out ++ (if z = true then [(1, id)] else [])) ++ (if 0 < x then [(2, id)] else [])) ∧ Chg G W1 wx)
    case first =>
      by_cases hp : 0 < x
      · have b0q : (w2.drewN nq).cell? ⟨w.heap.size, 0, none⟩ = some (.int .i64 id) := b0
        have hl2 : (out ++ (if z = true then [(1, id)] else [])).length ≤ 90001 := by cases z <;> simp <;> omega
        clear lkb
        go_wp2_with (go_at_call 45; refine (addF_any 2 id ((unhide HLa).drewN nq) (fun k hk => unhide HG1 k (by have := unhide Hs1; have e : (w2.drewN nq).heap.size = w2.heap.size := rfl; omega)) (by omega)).mono ?_; rintro e w3 ⟨he, hL3, hC3⟩; subst he; have HL3 := hide hL3; have HC3 := hide hC3; clear hL3 hC3)
        go_meet
        case rel =>
          obtain ⟨v2, hv2⟩ := unhide HL3
          rw [if_pos hp]
          exact ⟨v2, hv2, ((unhide HCa).trans (Chg.of_below (below_drewN (Below.refl _ _) nq))).trans (unhide HC3)⟩
      · clear lkb
        go_wp2_with fail
        go_meet
        case rel =>
          rw [if_neg (show ¬ 0 < x by omega), List.append_nil]
          exact ⟨v1, (unhide HLa).drewN nq, (unhide HCa).trans (Chg.of_below (below_drewN (Below.refl _ _) nq))⟩
    case rest =>
      obtain ⟨v2, hL, hC⟩ := hcut
      obtain ⟨w3, rfl⟩ : ∃ wo : World, wo = wc := ⟨_, rfl⟩
      obtain ⟨O2, hO2⟩ : ∃ O, O = (out ++ (if z = true then [(1, id)] else [])) ++ (if 0 < x then [(2, id)] else []) := ⟨_, rfl⟩
      rw [← hO2] at hL
      have hO2l : O2.length ≤ 90002 := by rw [hO2]; cases z <;> by_cases hp : 0 < x <;> simp [hp] <;> omega
      have HO2 := hide hO2
      clear hO2 a1 b0 b2 lkb
      have sC3 := hC.size
      have bx : w3.heap[w.heap.size]? = W1.heap[w.heap.size]? := hC.block _ (by have := unhide Hs1; omega) (unhide HG2)
      have b0 : w3.cell? ⟨w.heap.size, 0, none⟩ = some (.int .i64 id) := (World.cell?_of_block (a := ⟨w.heap.size, 0, none⟩) bx).trans (unhide Hd0)
      have b2 : w3.cell? ⟨w.heap.size, 2, none⟩ = some (.string tx) := (World.cell?_of_block (a := ⟨w.heap.size, 2, none⟩) bx).trans (unhide Hd2)
      have a1 := hL.c1
      have lkb : (Instr.lookup 34 (.map (some bb)) (.string tx) false).run Tryd.prog w3.drew = .ok (.int .i64 x) w3.drew := run_lkB (w := w3.drew) (hL.mb.drewN 1) tx x (unhide Hxx)
      have HL3 := hide hL
      have HC3 := hide hC
      clear hL hC bx
      go_wp2_with fail
      refine wp_region_still_tail 8 (by kernel_rfl) (by kernel_rfl) ?_
      simp only [List.take_succ_cons, List.take_zero, List.drop_succ_cons, List.drop_zero]
      repeat still_step
      refine wpStill_nil ?_
      change wpList _ _ _ _ _ w3.drew
      rw [wrap_small hx0 (by omega)]
      go_wp2_with (at_mapUpdate; refine wpList_upN kStr 34 9 3 Tryd.underlying34 Tryd.underlying9 rfl _ _ _ rfl X bb rfl ((unhide HL3).mb.drewN 1) tx rfl (x + 1) rfl ?_; intro w5 HM5 HG5)
      have L5 := (((unhide HL3).drewN 1).upB HM5 HG5)
      have hbG := (unhide HL3).bF
      have hC5 : Chg G W1 w5 := ((unhide HC3).trans (Chg.of_below (below_drewN (Below.refl _ _) 1))).trans (Chg.of_grown HG5 HG5.size fun k hk => by injection hk with hk; exact hk ▸ hbG)
      have s5 := hC5.size
      clear HM5 HG5 a1 b0 b2 lkb HL3 HC3
      have bx : w5.heap[w.heap.size]? = W1.heap[w.heap.size]? := hC5.block _ (by have := unhide Hs1; omega) (unhide HG2)
      have b0 : w5.cell? ⟨w.heap.size, 0, none⟩ = some (.int .i64 id) := (World.cell?_of_block (a := ⟨w.heap.size, 0, none⟩) bx).trans (unhide Hd0)
      have a2 := L5.c2
      have lkt : (Instr.lookup 86 (.map (some bt)) (.int .i64 id) false).run Tryd.prog w5.drew = .ok (.int .i64 y) w5.drew := run_lkT (w := w5.drew) (L5.mt.drewN 1) id y (unhide Hyy)
      have HL5 := hide L5
      have HC5 := hide hC5
      clear L5 hC5 bx
      go_wp2_with fail
      refine wp_region_still_tail 8 (by kernel_rfl) (by kernel_rfl) ?_
      simp only [List.take_succ_cons, List.take_zero, List.drop_succ_cons, List.drop_zero]
      repeat still_step
      refine wpStill_nil ?_
      change wpList _ _ _ _ _ w5.drew
      rw [wrap_small hy0 (by omega)]
      go_wp2_with (at_mapUpdate; refine wpList_upN kInt 86 3 3 Tryd.underlying86 Tryd.underlying3 rfl _ _ _ rfl Y bt rfl ((unhide HL5).mt.drewN 1) id rfl (y + 1) rfl ?_; intro w6 HM6 HG6)
      have L6 := (((unhide HL5).drewN 1).upT HM6 HG6)
      have htG := (unhide HL5).tF
      have hC6 : Chg G W1 w6 := ((unhide HC5).trans (Chg.of_below (below_drewN (Below.refl _ _) 1))).trans (Chg.of_grown HG6 HG6.size fun k hk => by injection hk with hk; exact hk ▸ htG)
      have s6 := hC6.size
      clear HM6 HG6 a2 b0 lkt HL5 HC5
      have bx : w6.heap[w.heap.size]? = W1.heap[w.heap.size]? := hC6.block _ (by have := unhide Hs1; omega) (unhide HG2)
      have b0 : w6.cell? ⟨w.heap.size, 0, none⟩ = some (.int .i64 id) := (World.cell?_of_block (a := ⟨w.heap.size, 0, none⟩) bx).trans (unhide Hd0)
      have b1 : w6.cell? ⟨w.heap.size, 1, none⟩ = some (.int .i64 rf) := (World.cell?_of_block (a := ⟨w.heap.size, 1, none⟩) bx).trans (unhide Hd1)
      have a0 := L6.c0
      have lkw : ∀ n, (Instr.lookup 86 (.map (some bw)) (.int .i64 id) false).run Tryd.prog (w6.drewN n) = .ok (.int .i64 t) (w6.drewN n) := fun n => run_lkT (L6.drewN n).mw id t (unhide Htt)
      have HL6 := hide L6
      have HC6 := hide hC6
      clear L6 hC6 bx
      go_wp2_with fail
      go_quiet (fail)
      obtain ⟨W7, hW7⟩ : ∃ W, W = w6.drewN nq := ⟨_, rfl⟩
      have L7 : LookAt W7 G p bw bb bt T (putN X tx (x + 1)) (putN Y id (y + 1)) v2 O2 := by rw [hW7]; exact (unhide HL6).drewN nq
      have C7 : Chg G W1 W7 := by rw [hW7]; exact (unhide HC6).trans (Chg.of_below (below_drewN (Below.refl _ _) nq))
      have e0 : W7.cell? ⟨w.heap.size, 0, none⟩ = some (.int .i64 id) := by rw [hW7]; exact b0
      have e1 : W7.cell? ⟨w.heap.size, 1, none⟩ = some (.int .i64 rf) := by rw [hW7]; exact b1
      rw [← hW7]
      have HL7 := hide L7
      have HC7 := hide C7
      have s7 := C7.size
      have hgF : ∀ k, W7.heap.size ≤ k → G k := fun k hk => unhide HG1 k (by have := unhide Hs1; omega)
      have HgF := hide hgF
      have hfinal : ∀ (w' : World) (v' : Value) (Y' : List (Int × Int)) (O' : List (Int × Int)), LookAt w' G p bw bb bt T (putN X tx (x + 1)) Y' v' O' → Chg G W1 w' → LookAt w' F p bw bb bt T (putN X tx (x + 1)) Y' v' O' ∧ Chg F w w' := fun w' v' Y' O' h1 h2 =>
        ⟨h1.mono fun k _ hk => unhide HG3 k hk, (Chg.of_below (unhide HB1)).trans (h2.mono fun k _ hk => unhide HG3 k hk)⟩
      have Hfinal := hide hfinal
      have hput : ∀ j, j ≠ id → atN (putN Y id (y + 1)) j = atN Y j := fun j hj => by rw [atN_put, if_neg hj]
      have hput2 : atN (putN Y id (y + 1)) id = y + 1 := by rw [atN_put, if_pos rfl]
      have Hput := hide hput
      have Hput2 := hide hput2
      clear hW7 L7 C7 b0 b1 a0 lkw HL6 HC6 hgF hfinal hput hput2
      by_cases ht : t = 0
      · have q0 : (t == 0) = true := beq_iff_eq.2 ht
        have Ht := hide ht
        clear ht
        go_wp2_with (go_at_call 45; refine (addF_any 5 id (unhide HL7) (unhide HgF) (by omega)).mono ?_; rintro e w8 ⟨he, hL8, hC8⟩; subst he; have HL8 := hide hL8; have HC8 := hide hC8; clear hL8 hC8)
        go_end0
        obtain ⟨v', hv'⟩ := unhide HL8
        obtain ⟨r1, r2⟩ := unhide Hfinal _ _ _ _ hv' ((unhide HC7).trans (unhide HC8))
        refine ⟨rfl, ⟨v', _, ?_, unhide Hput, by rw [unhide Hput2]; omega, by rw [unhide Hput2]; omega⟩, r2⟩
        rw [unhide HOfin, ← List.append_assoc, ← List.append_assoc, ← unhide HO2, if_pos (unhide Ht)]
        exact r1
      · have q0 : (t == 0) = false := beq_eq_false_iff_ne.2 ht
        have Ht := hide ht
        clear ht
        by_cases hr : t = rf
        · have q1 : (t != rf) = false := by simp [hr]
          have Hr := hide hr
          clear hr
          have s8 := (unhide HC7).size
          have bx : W7.heap[w.heap.size]? = W1.heap[w.heap.size]? := (unhide HC7).block _ (by have := unhide Hs1; omega) (unhide HG2)
          have b0 : W7.cell? ⟨w.heap.size, 0, none⟩ = some (.int .i64 id) := (World.cell?_of_block (a := ⟨w.heap.size, 0, none⟩) bx).trans (unhide Hd0)
          have a2 := (unhide HL7).c2
          have lkt : (Instr.lookup 86 (.map (some bt)) (.int .i64 id) false).run Tryd.prog W7.drew = .ok (.int .i64 (y + 1)) W7.drew := run_lkT (w := W7.drew) ((unhide HL7).mt.drewN 1) id (y + 1) (unhide Hput2)
          clear bx
          go_wp2_with fail
          refine wp_region_still_tail 8 (by kernel_rfl) (by kernel_rfl) ?_
          simp only [List.take_succ_cons, List.take_zero, List.drop_succ_cons, List.drop_zero]
          repeat still_step
          refine wpStill_nil ?_
          change wpList _ _ _ _ _ W7.drew
          rw [wrap_small (x := y + 1) (by omega) (by omega)]
          go_wp2_with (at_mapUpdate; refine wpList_upN kInt 86 3 3 Tryd.underlying86 Tryd.underlying3 rfl _ _ _ rfl (putN Y id (y + 1)) bt rfl ((unhide HL7).mt.drewN 1) id rfl (y + 1 + 1) rfl ?_; intro w9 HM9 HG9)
          have L9 := (((unhide HL7).drewN 1).upT HM9 HG9)
          have htG := (unhide HL7).tF
          have hC9 : Chg G W1 w9 := ((unhide HC7).trans (Chg.of_below (below_drewN (Below.refl _ _) 1))).trans (Chg.of_grown HG9 HG9.size fun k hk => by injection hk with hk; exact hk ▸ htG)
          go_end0
          obtain ⟨r1, r2⟩ := unhide Hfinal _ _ _ _ L9 hC9
          refine ⟨rfl, ⟨v2, putN (putN Y id (y + 1)) id (y + 1 + 1), ?_, fun j hj => ?_, ?_, ?_⟩, r2⟩
          · rw [unhide HOfin, ← List.append_assoc, ← List.append_assoc, ← unhide HO2, if_neg (unhide Ht), if_neg (fun h => h (unhide Hr)), List.append_nil]
            exact r1
          · rw [atN_put, if_neg hj]; exact unhide Hput j hj
          · rw [atN_put, if_pos rfl]; omega
          · rw [atN_put, if_pos rfl]; omega
        · have q1 : (t != rf) = true := by simpa using hr
          have Hr := hide hr
          clear hr
          go_wp2_with (go_at_call 45; refine (addF_any 3 id (unhide HL7) (unhide HgF) (by omega)).mono ?_; rintro e w8 ⟨he, hL8, hC8⟩; subst he; obtain ⟨v8, hL8⟩ := hL8; have HL8 := hide hL8; have HC8 := hide ((unhide HC7).trans hC8); clear hL8 hC8)
          have s8 := (unhide HC8).size
          have bx : w8.heap[w.heap.size]? = W1.heap[w.heap.size]? := (unhide HC8).block _ (by have := unhide Hs1; omega) (unhide HG2)
          have b0 : w8.cell? ⟨w.heap.size, 0, none⟩ = some (.int .i64 id) := (World.cell?_of_block (a := ⟨w.heap.size, 0, none⟩) bx).trans (unhide Hd0)
          have a2 := (unhide HL8).c2
          have lkt : (Instr.lookup 86 (.map (some bt)) (.int .i64 id) false).run Tryd.prog w8.drew = .ok (.int .i64 (y + 1)) w8.drew := run_lkT (w := w8.drew) ((unhide HL8).mt.drewN 1) id (y + 1) (unhide Hput2)
          clear bx
          go_wp2_with fail
          refine wp_region_still_tail 8 (by kernel_rfl) (by kernel_rfl) ?_
          simp only [List.take_succ_cons, List.take_zero, List.drop_succ_cons, List.drop_zero]
          repeat still_step
          refine wpStill_nil ?_
          change wpList _ _ _ _ _ w8.drew
          rw [wrap_small (x := y + 1) (by omega) (by omega)]
          go_wp2_with (at_mapUpdate; refine wpList_upN kInt 86 3 3 Tryd.underlying86 Tryd.underlying3 rfl _ _ _ rfl (putN Y id (y + 1)) bt rfl ((unhide HL8).mt.drewN 1) id rfl (y + 1 + 1) rfl ?_; intro w9 HM9 HG9)
          have L9 := (((unhide HL8).drewN 1).upT HM9 HG9)
          have htG := (unhide HL8).tF
          have hC9 : Chg G W1 w9 := ((unhide HC8).trans (Chg.of_below (below_drewN (Below.refl _ _) 1))).trans (Chg.of_grown HG9 HG9.size fun k hk => by injection hk with hk; exact hk ▸ htG)
          go_end0
          obtain ⟨r1, r2⟩ := unhide Hfinal _ _ _ _ L9 hC9
          refine ⟨rfl, ⟨v8, putN (putN Y id (y + 1)) id (y + 1 + 1), ?_, fun j hj => ?_, ?_, ?_⟩, r2⟩
          · rw [unhide HOfin, ← List.append_assoc, ← List.append_assoc, ← unhide HO2, if_neg (unhide Ht), if_pos (unhide Hr)]
            exact r1
          · rw [atN_put, if_neg hj]; exact unhide Hput j hj
          · rw [atN_put, if_pos rfl]; omega
          · rw [atN_put, if_pos rfl]; omega
end Go.Proofs.YtdpbjigdihajjaaDoor
