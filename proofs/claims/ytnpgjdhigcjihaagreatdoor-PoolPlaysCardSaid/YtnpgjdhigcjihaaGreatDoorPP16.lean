/- Joined texts: PoolE, PoolF, PoolG, PoolH, PoolI, PoolJ, PoolP, PoolK, PoolM, RqN. -/
import Derived.Test.YtnpgjdhigcjihaaGreatDoorPP15
import Derived.StillTailTactics
/- Walk of package pool: add. -/
namespace Go.Proofs.YtnpgjdhigcjihaaGreatDoor
open Go.RowKit

theorem Chg.of_drewN {F : Nat → Prop} {a b : World} {n : Nat} (h : Chg F (a.drewN n) b) : Chg F a b := ⟨h.os, h.tape, h.output, h.size, h.block⟩
theorem Chg.below_trans {F : Nat → Prop} {a b c : World} (h : Below a.heap.size a b) (k : Chg F b c) : Chg F a c := (Chg.of_below h).trans k
section
variable {w : World} {G : Nat → Prop} {s : Value} {most : Int} {es : List (Int × Blk)} {bs : List (List (Int × Int))}
/-- The pool behind a store into its map and a change of its shelf. -/
theorem PoolIs.turned {w1 w2 : World} {es' : List (Int × Blk)} {bs' : List (List (Int × Int))} {p m q : Nat} (h2 : p < w.heap.size) (h3 : m < w.heap.size) (h4 : G p) (h5 : G m) (h6 : p ≠ m)
    (h7 : w.cell? ⟨p, 0, none⟩ = some (.int .i64 most)) (h8 : w.cell? ⟨p, 1, none⟩ = some (.map (some m))) (h9 : w.cell? ⟨p, 2, none⟩ = some (.pointer (some ⟨q, 0, none⟩)))
    (hsz : w.heap.size ≤ w1.heap.size) (hp : w1.heap[p]? = w.heap[p]?) (hm : MapIs kInt w1 m (esV es'))
    (hc : Chg (fun k => G k ∧ k ≠ p ∧ k ≠ m) w1 w2) (hs : ShelfIs w2 (fun k => G k ∧ k ≠ p ∧ k ≠ m) (.pointer (some ⟨q, 0, none⟩)) bs') : PoolIs w2 G (.pointer (some ⟨p, 0, none⟩)) most es' bs' := by
  have e : w2.heap[p]? = w.heap[p]? := (hc.block p (by omega) fun h => h.2.1 rfl).trans hp
  have := hc.size
  exact ⟨p, m, q, rfl, by omega, by omega, h4, h5, h6, (World.cell?_of_block (a := ⟨p, 0, none⟩) e).trans h7, (World.cell?_of_block (a := ⟨p, 1, none⟩) e).trans h8, (World.cell?_of_block (a := ⟨p, 2, none⟩) e).trans h9,
    hm.kept (hc.block m (by omega) fun h => h.2.2 rfl), hs⟩

set_option maxHeartbeats 2000000 in
set_option maxRecDepth 100000 in
theorem add_any (id : Int) (t : ByteArray) (r : Int) (h : PoolIs w G s most es bs) (hG : ∀ k, w.heap.size ≤ k → G k) (hl : lenB bs < 1000000) (hb : t.size ≤ 1000000) (hn : ¬ hasB bs (ofI t) id) :
    Calls Tryz.prog 30 #[s, .int .i64 id, .agg #[.string t, .int .i64 r]] w fun e w' => e = .returned (.tuple #[]) ∧ PoolIs w' G s most (putE es id (t, r)) (putB bs (ofI t) id) ∧ Chg G w w' := by
  obtain ⟨p, m, q, rfl, h2, h3, h4, h5, h6, h7, h8, h9, h10, h11⟩ := h
  obtain ⟨x, hx⟩ : ∃ x, x = ofI t := ⟨_, rfl⟩
  have hxb := ofI_bd t
  rw [← hx] at hxb hn ⊢
  have hx0 := hxb.1
  have hx1 := hxb.2
  have hof : ∀ w1 : World, Calls Tryz.prog 40 #[.string t] w1 fun e w' => e = .returned (.int .u32 x) ∧ w' = w1 := fun w1 => by rw [hx]; exact pof_any t w1 hb
  obtain ⟨W0, hW0⟩ : ∃ W0, W0 = w.alloc (.cells #[.string t, .int .i64 r] 71) := ⟨_, rfl⟩
  have B0 : Below w.heap.size w W0 := by rw [hW0]; exact (Below.refl _ _).alloc (Nat.le_refl _) _
  have c0 : W0.cell? ⟨w.heap.size, 0, none⟩ = some (.string t) := by rw [hW0]; exact World.cell?_alloc_at _ _ _ _ rfl
  have c1 : W0.cell? ⟨w.heap.size, 1, none⟩ = some (.int .i64 r) := by rw [hW0]; exact World.cell?_alloc_at _ _ _ _ rfl
  have s0 : W0.heap.size = w.heap.size + 1 := by rw [hW0]; simp
  have d1 := ((bcell B0).1 p 1 h2).trans h8
  have d2 := ((bcell B0).1 p 2 h2).trans h9
  have HM := hide (h10.below B0)
  have HS := hide (h11.below B0)
  have Hof := hide hof
  have Hn := hide hn
  have H7 := hide h7
  have H8 := hide h8
  have H9 := hide h9
  have Hs0 := hide s0
  clear hx hof hn hxb h10 h11 h7 h8 h9 s0
  go_enter Tryz.func30, Tryz.ntmps30
  go_wp2_with fail
  rw [← hW0]
  clear hW0
  go_still_tail 6, (by kernel_rfl)
  change wpList _ _ _ _ _ W0.drew
  go_wp2_with (at_mapUpdate; refine wpList_update_is rfl _ _ _ _ rfl kInt (esV es) 3 71 Tryz.underlying61 Tryz.underlying3 m rfl ((unhide HM).drewN 1) id rfl (blkV (t, r)) rfl ?_; intro w1 HM1 HG1)
  have hpm : some p ≠ some m := fun e => h6 (by injection e)
  have sz0 := unhide Hs0
  have e1 : w1.heap[p]? = W0.heap[p]? := HG1.block p (by show p < W0.heap.size; omega) hpm
  have e2 : w1.heap[w.heap.size]? = W0.heap[w.heap.size]? := HG1.block _ (by show _ < W0.heap.size; omega) fun e => by injection e with e; omega
  have g2 : w1.cell? ⟨p, 2, none⟩ = some (.pointer (some ⟨q, 0, none⟩)) := (World.cell?_of_block (a := ⟨p, 2, none⟩) e1).trans d2
  have g0 : w1.cell? ⟨w.heap.size, 0, none⟩ = some (.string t) := (World.cell?_of_block (a := ⟨w.heap.size, 0, none⟩) e2).trans c0
  have sz1 : W0.heap.size ≤ w1.heap.size := HG1.size
  have HGx : W0.grownBy w1 (some m) := ⟨HG1.os, HG1.tape, HG1.output, HG1.size, HG1.block⟩
  have hC1 : Chg (fun k => k = m) W0 w1 := Chg.of_grown HGx sz1 fun k hk => by injection hk with hk; exact hk.symm
  have HC1 := hide hC1
  have HS1 := hide ((unhide HS).chg hC1 fun k hk e => hk.2.2 e)
  rw [put_esV] at HM1
  have HE1 := hide (e1.trans (B0.block p h2))
  have HM2 := hide HM1
  have hF : ∀ k, w1.heap.size ≤ k → G k ∧ k ≠ p ∧ k ≠ m := fun k hk => ⟨hG k (by omega), by omega, by omega⟩
  have HF := hide hF
  clear e1 e2 hC1 HG1 HGx HM1 hF d1 d2 c0 c1 HS HM hpm
  go_wp2_with fail
  refine wp_region_still_tail 8 (by kernel_rfl) (by kernel_rfl) ?_
  simp only [List.take_succ_cons, List.take_zero, List.drop_succ_cons, List.drop_zero]
  repeat still_step
  still_call (unhide Hof _)
  repeat still_step
  refine wpStill_nil ?_
  change wpList _ _ _ _ _ w1.drew
  go_wp2_with (go_at_call 70; refine (put_yesG x id (ShelfIs.drewN (unhide HS1) 1) (unhide HF) hx0 hx1 hl (unhide Hn)).mono ?_; rintro e w2 ⟨he, hS2, hC2⟩; subst he)
  go_end0
  refine ⟨rfl, PoolIs.turned h2 h3 h4 h5 h6 (unhide H7) (unhide H8) (unhide H9) (show w.heap.size ≤ w1.heap.size by omega) (unhide HE1) (unhide HM2) hC2.of_drewN hS2, ?_⟩
  exact Chg.below_trans B0 (((unhide HC1).mono fun k _ hk => hk ▸ h5).trans (hC2.of_drewN.mono fun k _ hk => hk.1))
end
end Go.Proofs.YtnpgjdhigcjihaaGreatDoor
/- Walks of package pool: there, least, turn. -/
namespace Go.Proofs.YtnpgjdhigcjihaaGreatDoor
open Go.RowKit

section
variable {w : World} {G : Nat → Prop} {s : Value} {most : Int} {es : List (Int × Blk)} {bs : List (List (Int × Int))}
set_option maxRecDepth 100000 in
theorem there_zero (h : PoolIs w G s most es bs) :
    Calls Tryz.prog 36 #[s, .int .i64 0] w fun e w' => e = .returned (.int .i64 0) ∧ w' = w := by
  have HP := hide h
  obtain ⟨p, rfl⟩ := h.ptr
  clear h
  go_enter Tryz.func36, Tryz.ntmps36
  go_wp2_with (go_at_call 27; refine (pnone_any (unhide HP)).mono ?_; rintro e w' ⟨he, hw⟩; subst he; subst hw)
  go_ret
  exact ⟨rfl, rfl⟩
set_option maxRecDepth 100000 in
theorem there_no (id : Int) (h : PoolIs w G s most es bs) (h0 : id ≠ 0) (hn : lkE es id = none) :
    Calls Tryz.prog 36 #[s, .int .i64 id] w fun e w' => e = .returned (.int .i64 2) ∧ w' = w := by
  have HP := hide h
  obtain ⟨p, rfl⟩ := h.ptr
  have q1 : (id != 0) = true := by simpa using h0
  have q2 : (id == 0) = false := beq_eq_false_iff_ne.2 h0
  have Hr := hide (show (lkE es id).getD (⟨#[]⟩, 0) = (⟨#[]⟩, 0) by rw [hn]; rfl)
  clear h h0 hn
  go_enter Tryz.func36, Tryz.ntmps36
  go_wp2_with (first | (go_at_call 27; refine (pnone_any (unhide HP)).mono ?_; rintro e w' ⟨he, hw⟩; subst he; subst hw) | (go_at_call 18; refine (refs_any id (unhide HP) _ _ (unhide Hr)).mono ?_; rintro e w' ⟨he, hw⟩; subst he; subst hw))
  go_ret
  exact ⟨rfl, rfl⟩
set_option maxRecDepth 100000 in
theorem there_yes (id : Int) (h : PoolIs w G s most es bs) (h0 : id ≠ 0) (t : ByteArray) (r : Int) (hn : lkE es id = some (t, r)) (hr : r ≠ 0) :
    Calls Tryz.prog 36 #[s, .int .i64 id] w fun e w' => e = .returned (.int .i64 0) ∧ w' = w := by
  have HP := hide h
  obtain ⟨p, rfl⟩ := h.ptr
  have q1 : (id != 0) = true := by simpa using h0
  have q2 : (id == 0) = false := beq_eq_false_iff_ne.2 h0
  have q3 : (r == 0) = false := beq_eq_false_iff_ne.2 hr
  have Hr := hide (show (lkE es id).getD (⟨#[]⟩, 0) = (t, r) by rw [hn]; rfl)
  clear h h0 hn hr
  go_enter Tryz.func36, Tryz.ntmps36
  go_wp2_with (first | (go_at_call 27; refine (pnone_any (unhide HP)).mono ?_; rintro e w' ⟨he, hw⟩; subst he; subst hw) | (go_at_call 18; refine (refs_any id (unhide HP) _ _ (unhide Hr)).mono ?_; rintro e w' ⟨he, hw⟩; subst he; subst hw))
  go_ret
  exact ⟨rfl, rfl⟩

/-- The least number that no block has. -/
def Least (es : List (Int × Blk)) (R : Int) : Prop := 1 ≤ R ∧ lkE es R = none ∧ ∀ j, 1 ≤ j → j < R → ∃ t r, lkE es j = some (t, r) ∧ 0 < r
set_option maxRecDepth 100000 in
theorem least_any (R : Int) (h : PoolIs w G s most es bs) (hR : Least es R) (hb : R ≤ 1000000) :
    Calls Tryz.prog 29 #[s] w fun e w' => e = .returned (.int .i64 R) ∧ w' = w := by
  have HP := hide h
  obtain ⟨p, rfl⟩ := h.ptr
  obtain ⟨h1, hn, hy⟩ := hR
  have Hr := hide (show (lkE es R).getD (⟨#[]⟩, 0) = (⟨#[]⟩, 0) by rw [hn]; rfl)
  have Hy := hide hy
  clear h hn hy
  go_enter Tryz.func29, Tryz.ntmps29
  go_wp2_with fail
  go_loop [3] (fun i => ∃ k : Int, 1 ≤ k ∧ k ≤ R ∧ i = .int .i64 k) (fun i => (R - intOf i).toNat)
  case atStart => exact ⟨1, by omega, h1, rfl⟩
  case round =>
    obtain ⟨k, hk1, hk2, rfl⟩ := hrel
    by_cases hlt : k < R
    · obtain ⟨t, r, htr, hr⟩ := unhide Hy k hk1 hlt
      have Htr := hide (show (lkE es k).getD (⟨#[]⟩, 0) = (t, r) by rw [htr]; rfl)
      clear htr
      go_wp2_with (go_at_call 18; refine (refs_any k (unhide HP) t r (unhide Htr)).mono ?_; rintro e w' ⟨he, hw⟩; subst he; subst hw)
      go_round
      case rel => exact ⟨k + 1, by omega, by omega, rfl⟩
      case measure => simp [intOf]; omega
    · obtain rfl : k = R := by omega
      go_wp2_with (go_at_call 18; refine (refs_any k (unhide HP) _ _ (unhide Hr)).mono ?_; rintro e w' ⟨he, hw⟩; subst he; subst hw)
      go_ret
      exact ⟨rfl, rfl⟩
end
end Go.Proofs.YtnpgjdhigcjihaaGreatDoor
/- Walk of package pool: turn. -/
namespace Go.Proofs.YtnpgjdhigcjihaaGreatDoor
open Go.RowKit

section
variable {w : World} {G : Nat → Prop} {s : Value} {most : Int} {es : List (Int × Blk)} {bs : List (List (Int × Int))}
set_option maxRecDepth 100000 in
theorem turn_none (id by' : Int) (h : PoolIs w G s most es bs) (h0 : id ≠ 0) (hn : lkE es id = none) :
    Calls Tryz.prog 32 #[s, .int .i64 id, .int .i64 by'] w fun e w' => e = .returned (.int .i64 2) ∧ w' = w := by
  have HP := hide h
  obtain ⟨p, rfl⟩ := h.ptr
  have H0 := hide h0
  have Hn := hide hn
  clear h h0 hn
  go_enter Tryz.func32, Tryz.ntmps32
  go_wp2_with (go_at_call 36; refine (there_no id (unhide HP) (unhide H0) (unhide Hn)).mono ?_; rintro e w' ⟨he, hw⟩; subst he; subst hw)
  go_ret
  exact ⟨rfl, rfl⟩
set_option maxRecDepth 100000 in
theorem turn_zero (by' : Int) (h : PoolIs w G s most es bs) :
    Calls Tryz.prog 32 #[s, .int .i64 0, .int .i64 by'] w fun e w' => e = .returned (.int .i64 0) ∧ w' = w := by
  have HP := hide h
  obtain ⟨p, rfl⟩ := h.ptr
  clear h
  go_enter Tryz.func32, Tryz.ntmps32
  go_wp2_with (go_at_call 36; refine (there_zero (unhide HP)).mono ?_; rintro e w' ⟨he, hw⟩; subst he; subst hw)
  go_ret
  exact ⟨rfl, rfl⟩

set_option maxHeartbeats 2000000 in
set_option maxRecDepth 100000 in
theorem turn_up (id by' : Int) (t : ByteArray) (r : Int) (h : PoolIs w G s most es bs) (hG : ∀ k, w.heap.size ≤ k → G k) (h0 : id ≠ 0) (hn : lkE es id = some (t, r)) (hr : r ≠ 0) (hs : r + by' ≠ 0)
    (hb1 : -1000000 ≤ r) (hb2 : r ≤ 1000000) (hb3 : -1000000 ≤ by') (hb4 : by' ≤ 1000000) :
    Calls Tryz.prog 32 #[s, .int .i64 id, .int .i64 by'] w fun e w' => e = .returned (.int .i64 0) ∧ PoolIs w' G s most (putE es id (t, r + by')) bs ∧ Chg G w w' := by
  have HP := hide h
  obtain ⟨p, m, q, rfl, h2, h3, h4, h5, h6, h7, h8, h9, h10, h11⟩ := h
  have q1 : (id == 0) = false := beq_eq_false_iff_ne.2 h0
  have q2 : (r + by' == 0) = false := beq_eq_false_iff_ne.2 hs
  obtain ⟨W0, hW0⟩ : ∃ W0, W0 = w.alloc (.cells #[.string t, .int .i64 (r + by')] 71) := ⟨_, rfl⟩
  have B0 : Below w.heap.size w W0 := by rw [hW0]; exact (Below.refl _ _).alloc (Nat.le_refl _) _
  have c0 : W0.cell? ⟨w.heap.size, 0, none⟩ = some (.string t) := by rw [hW0]; exact World.cell?_alloc_at _ _ _ _ rfl
  have c1 : W0.cell? ⟨w.heap.size, 1, none⟩ = some (.int .i64 (r + by')) := by rw [hW0]; exact World.cell?_alloc_at _ _ _ _ rfl
  have s0 : W0.heap.size = w.heap.size + 1 := by rw [hW0]; simp
  have d1 := ((bcell B0).1 p 1 h2).trans h8
  have HM0 := hide h10
  have HM := hide (h10.below B0)
  have HS := hide (h11.below B0)
  have l1 : w.heap.size < W0.drew.heap.size := by show w.heap.size < W0.heap.size; omega
  have n1 : some w.heap.size ≠ some m := fun e => by injection e with e; omega
  have H0 := hide h0
  have Hn := hide hn
  have Hr := hide hr
  have Htr := hide (show (lkE es id).getD (⟨#[]⟩, 0) = (t, r) by rw [hn]; rfl)
  have H7 := hide h7
  have H8 := hide h8
  have H9 := hide h9
  have Hs0 := hide s0
  clear h10 h11 h9 h7 s0 h0 hn hr hs
  go_enter Tryz.func32, Tryz.ntmps32
  go_wp2_with (first | (go_at_call 36; refine (there_yes id (unhide HP) (unhide H0) t r (unhide Hn) (unhide Hr)).mono ?_; rintro e w' ⟨he, hw⟩; subst he; subst hw) | (at_lookup; refine wpList_lookup_blk rfl _ _ rfl es m rfl (unhide HM0) id rfl t r (unhide Htr) ?_))
  rw [← hW0]
  clear hW0
  go_still_tail 6, (by kernel_rfl)
  change wpList _ _ _ _ _ W0.drew
  go_wp2_with (at_mapUpdate; refine wpList_update_is rfl _ _ _ _ rfl kInt (esV es) 3 71 Tryz.underlying61 Tryz.underlying3 m rfl ((unhide HM).drewN 1) id rfl (blkV (t, r + by')) rfl ?_; intro w1 HM1 HG1; have g1 := (HG1.cell_far ⟨w'.heap.size, 1, none⟩ l1 n1).trans c1)
  go_ret
  have sz0 := unhide Hs0
  have sz1 : W0.heap.size ≤ w1.heap.size := HG1.size
  have hpm : some p ≠ some m := fun e => h6 (by injection e)
  have e1 : w1.heap[p]? = W0.heap[p]? := HG1.block p (by show p < W0.heap.size; omega) hpm
  have hC1 : Chg (fun k => k = m) W0 w1 := Chg.of_grown (row := some m) ⟨HG1.os, HG1.tape, HG1.output, HG1.size, HG1.block⟩ sz1 fun k hk => by injection hk with hk; exact hk.symm
  have HS1 := (unhide HS).chg hC1 fun k hk e => hk.2.2 e
  rw [put_esV] at HM1
  exact ⟨rfl, PoolIs.turned h2 h3 h4 h5 h6 (unhide H7) (unhide H8) (unhide H9) (show w'.heap.size ≤ w1.heap.size by omega) (e1.trans (B0.block p h2)) HM1 (Chg.refl _ _) HS1, Chg.below_trans B0 (hC1.mono fun k _ hk => hk ▸ h5)⟩
end
end Go.Proofs.YtnpgjdhigcjihaaGreatDoor
/- Walk of package pool: turn, where a block is let go for good. -/
namespace Go.Proofs.YtnpgjdhigcjihaaGreatDoor
open Go.RowKit

theorem delE_putE (es : List (Int × Blk)) (k : Int) (x : Blk) : delE (putE es k x) k = delE es k := by
  unfold delE
  induction es with
  | nil => simp [putE]
  | cons p es ih =>
    unfold putE
    by_cases h : p.1 = k
    · rw [if_pos h, List.filter_cons, List.filter_cons]
      simp [h]
    · rw [if_neg h, List.filter_cons, List.filter_cons, ih]
section
variable {w : World} {G : Nat → Prop} {s : Value} {most : Int} {es : List (Int × Blk)} {bs : List (List (Int × Int))}
set_option maxHeartbeats 2000000 in
set_option maxRecDepth 100000 in
theorem turn_drop (id : Int) (t : ByteArray) (h : PoolIs w G s most es bs) (hG : ∀ k, w.heap.size ≤ k → G k) (h0 : id ≠ 0) (hn : lkE es id = some (t, 1)) (hb : t.size ≤ 1000000) (hh : hasB bs (ofI t) id) :
    Calls Tryz.prog 32 #[s, .int .i64 id, .int .i64 (-1)] w fun e w' => e = .returned (.int .i64 0) ∧ PoolIs w' G s most (delE es id) (cutB bs (ofI t) id) ∧ Chg G w w' := by
  have HP := hide h
  obtain ⟨p, m, q, rfl, h2, h3, h4, h5, h6, h7, h8, h9, h10, h11⟩ := h
  have q1 : (id == 0) = false := beq_eq_false_iff_ne.2 h0
  obtain ⟨x, hx⟩ : ∃ x, x = ofI t := ⟨_, rfl⟩
  have hxb := ofI_bd t
  rw [← hx] at hxb hh ⊢
  have hx0 := hxb.1
  have hx1 := hxb.2
  have hof : ∀ w1 : World, Calls Tryz.prog 40 #[.string t] w1 fun e w' => e = .returned (.int .u32 x) ∧ w' = w1 := fun w1 => by rw [hx]; exact pof_any t w1 hb
  obtain ⟨W0, hW0⟩ : ∃ W0, W0 = w.alloc (.cells #[.string t, .int .i64 0] 71) := ⟨_, rfl⟩
  have B0 : Below w.heap.size w W0 := by rw [hW0]; exact (Below.refl _ _).alloc (Nat.le_refl _) _
  have c0 : W0.cell? ⟨w.heap.size, 0, none⟩ = some (.string t) := by rw [hW0]; exact World.cell?_alloc_at _ _ _ _ rfl
  have c1 : W0.cell? ⟨w.heap.size, 1, none⟩ = some (.int .i64 0) := by rw [hW0]; exact World.cell?_alloc_at _ _ _ _ rfl
  have s0 : W0.heap.size = w.heap.size + 1 := by rw [hW0]; simp
  have d1 := ((bcell B0).1 p 1 h2).trans h8
  have d2 := ((bcell B0).1 p 2 h2).trans h9
  have HM0 := hide h10
  have HM := hide (h10.below B0)
  have HS := hide (h11.below B0)
  have l1 : w.heap.size < W0.drew.heap.size := by show w.heap.size < W0.heap.size; omega
  have l2 : p < W0.drew.heap.size := by show p < W0.heap.size; omega
  have n1 : some w.heap.size ≠ some m := fun e => by injection e with e; omega
  have n2 : some p ≠ some m := fun e => h6 (by injection e)
  have H0 := hide h0
  have Hn := hide hn
  have Hof := hide hof
  have Hh := hide hh
  have Htr := hide (show (lkE es id).getD (⟨#[]⟩, 0) = (t, 1) by rw [hn]; rfl)
  have H7 := hide h7
  have H8 := hide h8
  have H9 := hide h9
  have Hs0 := hide s0
  clear h10 h11 h9 h7 s0 h0 hn hx hof hxb hh
  go_enter Tryz.func32, Tryz.ntmps32
  go_wp2_with (first | (go_at_call 36; refine (there_yes id (unhide HP) (unhide H0) t 1 (unhide Hn) (by decide)).mono ?_; rintro e w' ⟨he, hw⟩; subst he; subst hw) | (at_lookup; refine wpList_lookup_blk rfl _ _ rfl es m rfl (unhide HM0) id rfl t 1 (unhide Htr) ?_))
  rw [← hW0]
  clear hW0
  go_still_tail 6, (by kernel_rfl)
  change wpList _ _ _ _ _ W0.drew
  go_wp2_with (first | (at_mapUpdate; refine wpList_update_is rfl _ _ _ _ rfl kInt (esV es) 3 71 Tryz.underlying61 Tryz.underlying3 m rfl ((unhide HM).drewN 1) id rfl (blkV (t, 0)) rfl ?_; intro w1 HM1 HG1; have g1 := (HG1.cell_far ⟨w'.heap.size, 1, none⟩ l1 n1).trans c1; have g0 := (HG1.cell_far ⟨w'.heap.size, 0, none⟩ l1 n1).trans c0; have e1 := (HG1.cell_far ⟨p, 1, none⟩ l2 n2).trans d1; have e2 := (HG1.cell_far ⟨p, 2, none⟩ l2 n2).trans d2; have l3 := Nat.lt_of_lt_of_le l1 HG1.size; have l4 := Nat.lt_of_lt_of_le l2 HG1.size) | (at_delete; refine wpList_delete_is rfl _ _ _ _ rfl kInt (put (esV es) id (blkV (t, 0))) 3 71 Tryz.underlying61 Tryz.underlying3 m rfl HM1 id rfl ?_; intro w2 HM2 HG2; have k0 := (HG2.cell_far ⟨w'.heap.size, 0, none⟩ l3 n1).trans g0; have k2 := (HG2.cell_far ⟨p, 2, none⟩ l4 n2).trans e2))
  have sz0 := unhide Hs0
  have sz1 : W0.heap.size ≤ w1.heap.size := HG1.size
  have sz2 : w1.heap.size ≤ w2.heap.size := HG2.size
  have hC1 : Chg (fun k => k = m) W0 w1 := Chg.of_grown (row := some m) ⟨HG1.os, HG1.tape, HG1.output, HG1.size, HG1.block⟩ sz1 fun k hk => by injection hk with hk; exact hk.symm
  have hC2 : Chg (fun k => k = m) w1 w2 := Chg.of_grown HG2 sz2 fun k hk => by injection hk with hk; exact hk.symm
  have hC := hC1.trans hC2
  have HS2 := hide ((unhide HS).chg hC fun k hk e => hk.2.2 e)
  rw [put_esV, del_esV, delE_putE] at HM2
  have hE2 : w2.heap[p]? = w'.heap[p]? := (hC.block p (by omega) h6).trans (B0.block p h2)
  have HE2 := hide hE2
  have HMf := hide HM2
  have HC := hide hC
  have hF : ∀ k, w2.heap.size ≤ k → G k ∧ k ≠ p ∧ k ≠ m := fun k hk => ⟨hG k (by omega), by omega, by omega⟩
  have HF := hide hF
  clear hE2 hC hC1 hC2 HM1 HM2 HG1 HG2 g0 g1 e1 e2 c0 c1 d1 d2 hF HS HM
  refine wp_region_still_tail 8 (by kernel_rfl) (by kernel_rfl) ?_
  simp only [List.take_succ_cons, List.take_zero, List.drop_succ_cons, List.drop_zero]
  repeat still_step
  still_call (unhide Hof _)
  repeat still_step
  refine wpStill_nil ?_
  change wpList _ _ _ _ _ w2.drew
  go_wp2_with (go_at_call 72; refine (cut_yesG x id (ShelfIs.drewN (unhide HS2) 1) (unhide HF) hx0 hx1 (unhide Hh)).mono ?_; rintro e w3 ⟨he, hS3, hC3⟩; subst he)
  go_ret
  refine ⟨rfl, PoolIs.turned h2 h3 h4 h5 h6 (unhide H7) (unhide H8) (unhide H9) (show w'.heap.size ≤ w2.heap.size by omega) (unhide HE2) (unhide HMf) hC3.of_drewN hS3, ?_⟩
  exact Chg.below_trans B0 (((unhide HC).mono fun k _ hk => hk ▸ h5).trans (hC3.of_drewN.mono fun k _ hk => hk.1))
end
end Go.Proofs.YtnpgjdhigcjihaaGreatDoor
/- Walks of package pool: New, Hold, Drop. -/
namespace Go.Proofs.YtnpgjdhigcjihaaGreatDoor
open Go.RowKit

section
variable {w : World} {G : Nat → Prop} {s : Value} {most : Int} {es : List (Int × Blk)} {bs : List (List (Int × Int))}
set_option maxHeartbeats 1000000 in
set_option maxRecDepth 100000 in
theorem pnew_any (most : Int) (w : World) (hG : ∀ k, w.heap.size ≤ k → G k) :
    Calls Tryz.prog 5 #[.int .i64 most] w fun e w' => ∃ p, e = .returned (.pointer (some ⟨p, 0, none⟩)) ∧ PoolIs w' G (.pointer (some ⟨p, 0, none⟩)) (min (max most 0) 60) [] (List.replicate 16 []) ∧ Below w.heap.size w w' := by
  have hmm := @run_makeMap Tryz.prog
  obtain ⟨W0, hW0⟩ : ∃ W0, W0 = w.alloc (.map #[] 0) := ⟨_, rfl⟩
  have B0 : Below w.heap.size w W0 := by rw [hW0]; exact (Below.refl _ _).alloc (Nat.le_refl _) _
  have HM0 : MapIs kInt W0 w.heap.size [] := by rw [hW0]; exact MapIs.made kInt w
  have s0 : W0.heap.size = w.heap.size + 1 := by rw [hW0]; simp
  have Hs0 := hide s0
  clear s0
  go_enter Tryz.func5, Tryz.ntmps5
  go_wp2_with fail
  rw [← hW0]
  clear hW0
  refine (new_any 16 W0).mono ?_
  rintro e w1 ⟨v, rfl, hS, HB⟩
  have hS1 : ShelfIs w1 (fun k => W0.heap.size ≤ k) v (List.replicate 16 []) := hS
  obtain ⟨q, rfl⟩ : ∃ q, v = .pointer (some ⟨q, 0, none⟩) := by
    obtain ⟨q, _, _, h, _⟩ := hS1
    exact ⟨q, h⟩
  have sz0 := unhide Hs0
  have sz1 := HB.size
  obtain ⟨W2, hW2⟩ : ∃ W2, W2 = w1.alloc (.cells #[.int .i64 (min (max most 0) 60), .map (some w.heap.size), .pointer (some ⟨q, 0, none⟩)] 65) := ⟨_, rfl⟩
  have B2 : Below w1.heap.size w1 W2 := by rw [hW2]; exact (Below.refl _ _).alloc (Nat.le_refl _) _
  have s2 : W2.heap.size = w1.heap.size + 1 := by rw [hW2]; simp
  have k0 : W2.cell? ⟨w1.heap.size, 0, none⟩ = some (.int .i64 (min (max most 0) 60)) := by rw [hW2]; exact World.cell?_alloc_at _ _ _ _ rfl
  have k1 : W2.cell? ⟨w1.heap.size, 1, none⟩ = some (.map (some w.heap.size)) := by rw [hW2]; exact World.cell?_alloc_at _ _ _ _ rfl
  have k2 : W2.cell? ⟨w1.heap.size, 2, none⟩ = some (.pointer (some ⟨q, 0, none⟩)) := by rw [hW2]; exact World.cell?_alloc_at _ _ _ _ rfl
  have hfin : PoolIs W2 G (.pointer (some ⟨w1.heap.size, 0, none⟩)) (min (max most 0) 60) [] (List.replicate 16 []) := by
    refine ⟨w1.heap.size, w.heap.size, q, rfl, by omega, by omega, hG _ (by omega), hG _ (Nat.le_refl _), by omega, k0, k1, k2, (HM0.below HB).below B2, ?_⟩
    exact ((hS1.gap (m' := W2.heap.size) B2 rfl).mono fun k hk => ⟨hG _ (by have := hk.1; omega), by have h1 := hk.1; have h2 := hk.2; omega, by have := hk.1; omega⟩)
  have Hfin := hide hfin
  have HB2 := (B0.trans (HB.mono (by omega))).trans (B2.mono (by omega))
  clear hfin k0 k1 k2 hS hS1 HM0
  go_wp2
  rw [← hW2]
  go_ret
  exact ⟨_, rfl, unhide Hfin, HB2⟩
theorem hold_of (id c : Int) (p : Nat) (P : World → Prop) (h : Calls Tryz.prog 32 #[.pointer (some ⟨p, 0, none⟩), .int .i64 id, .int .i64 (1)] w fun e w' => e = .returned (.int .i64 c) ∧ P w') :
    Calls Tryz.prog 9 #[.pointer (some ⟨p, 0, none⟩), .int .i64 id] w fun e w' => e = .returned (.int .i64 c) ∧ P w' := by
  have H := hide h
  clear h
  go_enter Tryz.func9, Tryz.ntmps9
  go_wp2_with fail
  refine (unhide H).mono ?_
  rintro e w' ⟨rfl, hp⟩
  have Hp := hide hp
  clear hp
  go_wp2
  go_ret
  exact ⟨rfl, unhide Hp⟩
theorem drop_of (id c : Int) (p : Nat) (P : World → Prop) (h : Calls Tryz.prog 32 #[.pointer (some ⟨p, 0, none⟩), .int .i64 id, .int .i64 (-1)] w fun e w' => e = .returned (.int .i64 c) ∧ P w') :
    Calls Tryz.prog 10 #[.pointer (some ⟨p, 0, none⟩), .int .i64 id] w fun e w' => e = .returned (.int .i64 c) ∧ P w' := by
  have H := hide h
  clear h
  go_enter Tryz.func10, Tryz.ntmps10
  go_wp2_with fail
  refine (unhide H).mono ?_
  rintro e w' ⟨rfl, hp⟩
  have Hp := hide hp
  clear hp
  go_wp2
  go_ret
  exact ⟨rfl, unhide Hp⟩
end
end Go.Proofs.YtnpgjdhigcjihaaGreatDoor
/- Walk of package pool: Put. -/
namespace Go.Proofs.YtnpgjdhigcjihaaGreatDoor
open Go.RowKit

section
variable {w : World} {G : Nat → Prop} {s : Value} {most : Int} {es : List (Int × Blk)} {bs : List (List (Int × Int))}
set_option maxRecDepth 100000 in
theorem pput_bad (b : ByteArray) (h : PoolIs w G s most es bs) (hb : b.size ≠ 8) :
    Calls Tryz.prog 7 #[s, .string b] w fun e w' => e = .returned (.tuple #[.int .i64 0, .int .i64 1]) ∧ w' = w := by
  have HP := hide h
  obtain ⟨p, rfl⟩ := h.ptr
  have q1 : ((b.size : Int) != 8) = true := by simp; omega
  have q2 : ((b.size : Int) == 8) = false := beq_eq_false_iff_ne.2 (by omega)
  clear h hb
  go_enter Tryz.func7, Tryz.ntmps7
  go_wp2_with (go_at_call 27; refine (pnone_any (unhide HP)).mono ?_; rintro e w' ⟨he, hw⟩; subst he; subst hw)
  go_ret2
  exact ⟨rfl, rfl⟩
set_option maxRecDepth 100000 in
theorem pput_zero (b : ByteArray) (h : PoolIs w G s most es bs) (hb : b.size = 8) (hz : zeroB b = true) :
    Calls Tryz.prog 7 #[s, .string b] w fun e w' => e = .returned (.tuple #[.int .i64 0, .int .i64 0]) ∧ PoolIs w' G s most es bs ∧ Below w.heap.size w w' := by
  have HP := hide h
  obtain ⟨p, rfl⟩ := h.ptr
  have q1 : ((b.size : Int) != 8) = false := by simp; omega
  have q2 : ((b.size : Int) == 8) = true := beq_iff_eq.2 (by omega)
  have Hz := hide hz
  have hb8 : b.size ≤ 1000000 := by omega
  clear h hb hz
  go_enter Tryz.func7, Tryz.ntmps7
  go_wp2_with (first | (go_at_call 27; refine (pnone_any (unhide HP)).mono ?_; rintro e w' ⟨he, hw⟩; subst he; subst hw) | (go_at_call 28; refine (zero_yes b _ hb8 (unhide Hz)).mono ?_; rintro e w1 ⟨he, q, hw⟩; subst he; subst hw))
  go_ret2
  exact ⟨rfl, (unhide HP).drewN q, below_drewN (Below.refl _ _) q⟩

set_option maxHeartbeats 1000000 in
set_option maxRecDepth 100000 in
theorem pput_had (b : ByteArray) (R r : Int) (h : PoolIs w G s most es bs) (hG : ∀ k, w.heap.size ≤ k → G k) (hi : PInv es bs) (hl : lenB bs < 1000000) (hb : b.size = 8) (hz : zeroB b = false) (hR : IsAt es b R) (h0 : 0 < R) (hn : lkE es R = some (b, r)) (hr : 1 ≤ r) (hr2 : r ≤ 100000) :
    Calls Tryz.prog 7 #[s, .string b] w fun e w' => e = .returned (.tuple #[.int .i64 R, .int .i64 0]) ∧ PoolIs w' G s most (putE es R (b, r + 1)) bs ∧ Chg G w w' := by
  have HP := hide h
  obtain ⟨p, rfl⟩ := h.ptr
  have q1 : ((b.size : Int) != 8) = false := by simp; omega
  have q2 : ((b.size : Int) == 8) = true := beq_iff_eq.2 (by omega)
  have hb8 : b.size ≤ 1000000 := by omega
  have HG := hide hG
  have HI := hide hi
  have Hz := hide hz
  have HR := hide hR
  have Hn := hide hn
  clear h hb hz hR hG hi hn
  go_enter Tryz.func7, Tryz.ntmps7
  go_wp2_with (first | (go_at_call 27; refine (pnone_any (unhide HP)).mono ?_; rintro e w' ⟨he, hw⟩; subst he; subst hw) | (go_at_call 28; refine (zero_no b _ hb8 (unhide Hz)).mono ?_; rintro e w1 ⟨he, q, hw⟩; subst he; subst hw) | (go_at_call 19; refine (pfind_any b ((unhide HP).drewN q) (unhide HI) hl hb8 R (unhide HR)).mono ?_; rintro e w1 ⟨he, HB⟩; subst he))
  have B1 : Below w'.heap.size w' w1 := (below_drewN (Below.refl _ _) q).trans HB
  have HP1 := hide ((unhide HP).below B1)
  have sz := B1.size
  clear HB
  refine (hold_of R 0 p (fun w2 => PoolIs w2 G (.pointer (some ⟨p, 0, none⟩)) most (putE es R (b, r + 1)) bs ∧ Chg G w1 w2) (turn_up R 1 b r (unhide HP1) (fun k hk => unhide HG k (by omega)) (by omega) (unhide Hn) (by omega) (by omega) (by omega) (by omega) (by omega) (by omega))).mono ?_
  rintro e w2 ⟨rfl, hP2, hC2⟩
  have HP2 := hide hP2
  clear hP2
  go_wp2
  go_ret2
  exact ⟨rfl, unhide HP2, Chg.below_trans B1 hC2⟩

theorem isAt_none {es : List (Int × Blk)} {b : ByteArray} (h : ∀ id r, lkE es id ≠ some (b, r)) : IsAt es b 0 := .inr ⟨rfl, h⟩
set_option maxHeartbeats 1000000 in
set_option maxRecDepth 100000 in
theorem pput_full (b : ByteArray) (h : PoolIs w G s most es bs) (hi : PInv es bs) (hl : lenB bs < 1000000) (hb : b.size = 8) (hz : zeroB b = false) (hno : ∀ id r, lkE es id ≠ some (b, r)) (hm0 : 0 ≤ most) (hm1 : most ≤ 1000) (hful : (es.length : Int) = most) :
    Calls Tryz.prog 7 #[s, .string b] w fun e w' => e = .returned (.tuple #[.int .i64 0, .int .i64 5]) ∧ PoolIs w' G s most es bs ∧ Below w.heap.size w w' := by
  have HP := hide h
  obtain ⟨p, rfl⟩ := h.ptr
  have q1 : ((b.size : Int) != 8) = false := by simp; omega
  have q2 : ((b.size : Int) == 8) = true := beq_iff_eq.2 (by omega)
  have q3 : (most - (es.length : Int) == 0) = true := beq_iff_eq.2 (by omega)
  have hb8 : b.size ≤ 1000000 := by omega
  have hl2 : es.length ≤ 1000 := by omega
  have HI := hide hi
  have Hz := hide hz
  have HR := hide (isAt_none hno)
  clear h hb hz hi hno hful
  go_enter Tryz.func7, Tryz.ntmps7
  go_wp2_with (first | (go_at_call 27; refine (pnone_any (unhide HP)).mono ?_; rintro e w' ⟨he, hw⟩; subst he; subst hw) | (go_at_call 28; refine (zero_no b _ hb8 (unhide Hz)).mono ?_; rintro e w1 ⟨he, q, hw⟩; subst he; subst hw) | (go_at_call 19; refine (pfind_any b ((unhide HP).drewN q) (unhide HI) hl hb8 0 (unhide HR)).mono ?_; rintro e w1 ⟨he, HB⟩; subst he))
  have B1 : Below w'.heap.size w' w1 := (below_drewN (Below.refl _ _) q).trans HB
  have HP1 := hide ((unhide HP).below B1)
  clear HB
  go_wp2_with (go_at_call 22; refine (room_any (unhide HP1) hm0 hm1 hl2).mono ?_; rintro e w2 ⟨he, q2, hw⟩; subst he; subst hw)
  go_ret2
  exact ⟨rfl, (unhide HP1).drewN q2, below_drewN B1 q2⟩
set_option maxHeartbeats 1000000 in
set_option maxRecDepth 100000 in
theorem pput_new (b : ByteArray) (R : Int) (h : PoolIs w G s most es bs) (hG : ∀ k, w.heap.size ≤ k → G k) (hi : PInv es bs) (hl : lenB bs < 1000000) (hb : b.size = 8) (hz : zeroB b = false) (hno : ∀ id r, lkE es id ≠ some (b, r)) (hm0 : 0 ≤ most) (hm1 : most ≤ 1000) (hful : (es.length : Int) < most)
    (hR : Least es R) (hR2 : R ≤ 1000000) :
    Calls Tryz.prog 7 #[s, .string b] w fun e w' => e = .returned (.tuple #[.int .i64 R, .int .i64 0]) ∧ PoolIs w' G s most (putE es R (b, 1)) (putB bs (ofI b) R) ∧ Chg G w w' := by
  have HP := hide h
  obtain ⟨p, rfl⟩ := h.ptr
  have q1 : ((b.size : Int) != 8) = false := by simp; omega
  have q2 : ((b.size : Int) == 8) = true := beq_iff_eq.2 (by omega)
  have q3 : (most - (es.length : Int) == 0) = false := beq_eq_false_iff_ne.2 (by omega)
  have hb8 : b.size ≤ 1000000 := by omega
  have hl2 : es.length ≤ 1000 := by omega
  have HG := hide hG
  have hnh : ¬ hasB bs (ofI b) R := fun h => by
    obtain ⟨t, r, h1, _⟩ := (hi _ _).1 h
    rw [hR.2.1] at h1
    cases h1
  have Hnh := hide hnh
  have HI := hide hi
  have Hz := hide hz
  have HA := hide (isAt_none hno)
  have HL := hide hR
  clear h hb hz hi hno hful hG hR hnh
  go_enter Tryz.func7, Tryz.ntmps7
  go_wp2_with (first | (go_at_call 27; refine (pnone_any (unhide HP)).mono ?_; rintro e w' ⟨he, hw⟩; subst he; subst hw) | (go_at_call 28; refine (zero_no b _ hb8 (unhide Hz)).mono ?_; rintro e w1 ⟨he, q, hw⟩; subst he; subst hw) | (go_at_call 19; refine (pfind_any b ((unhide HP).drewN q) (unhide HI) hl hb8 0 (unhide HA)).mono ?_; rintro e w1 ⟨he, HB⟩; subst he))
  have B1 : Below w'.heap.size w' w1 := (below_drewN (Below.refl _ _) q).trans HB
  have HP1 := hide ((unhide HP).below B1)
  clear HB
  go_wp2_with (first | (go_at_call 22; refine (room_any (unhide HP1) hm0 hm1 hl2).mono ?_; rintro e w2 ⟨he, q2, hw⟩; subst he; subst hw) | (go_at_call 29; refine (least_any R ((unhide HP1).drewN q2) (unhide HL) hR2).mono ?_; rintro e w3 ⟨he, hw⟩; subst he; subst hw) | (go_at_call 31; refine (clone_any b _ hb8).mono ?_; rintro e w4 ⟨he, HB4⟩; subst he))
  have B4 : Below w'.heap.size w' w4 := (below_drewN B1 q2).trans (HB4.mono B1.size)
  have HP4 := hide ((unhide HP).below B4)
  have sz := B4.size
  clear HB4
  refine (add_any R b 1 (unhide HP4) (fun k hk => unhide HG k (by omega)) hl hb8 (unhide Hnh)).mono ?_
  rintro e w5 ⟨rfl, hP5, hC5⟩
  have HP5 := hide hP5
  clear hP5
  go_wp2
  go_ret2
  exact ⟨rfl, unhide HP5, Chg.below_trans B4 hC5⟩
end
end Go.Proofs.YtnpgjdhigcjihaaGreatDoor
/- Pools as plain lists: what Put, Hold, Drop do to blocks and to buckets. -/
namespace Go.Proofs.YtnpgjdhigcjihaaGreatDoor

theorem lkE_put_same (es : List (Int × Blk)) (k : Int) (x : Blk) : lkE (putE es k x) k = some x := by
  induction es with
  | nil => simp [putE, lkE]
  | cons p es ih =>
    unfold putE
    by_cases h : p.1 = k
    · rw [if_pos h]; simp [lkE]
    · rw [if_neg h]; unfold lkE; rw [if_neg h]; exact ih
theorem lkE_put_other (es : List (Int × Blk)) {k j : Int} (x : Blk) (hj : j ≠ k) : lkE (putE es k x) j = lkE es j := by
  induction es with
  | nil => simp [putE, lkE, Ne.symm hj]
  | cons p es ih =>
    unfold putE
    by_cases h : p.1 = k
    · rw [if_pos h]
      have h2 : ¬ p.1 = j := fun e => hj (e.symm.trans h)
      unfold lkE
      rw [if_neg h2, if_neg (Ne.symm hj)]
    · rw [if_neg h]
      unfold lkE
      by_cases h2 : p.1 = j
      · rw [if_pos h2, if_pos h2]
      · rw [if_neg h2, if_neg h2]; exact ih
theorem lkE_del (es : List (Int × Blk)) (k j : Int) : lkE (delE es k) j = if j = k then none else lkE es j := by
  induction es with
  | nil => simp [delE, lkE]
  | cons p es ih =>
    unfold delE at ih ⊢
    rw [List.filter_cons]
    by_cases h : p.1 = k
    · rw [if_neg (by simp [h]), ih]
      by_cases h2 : j = k
      · rw [if_pos h2, if_pos h2]
      · rw [if_neg h2, if_neg h2]
        show lkE es j = if p.1 = j then some p.2 else lkE es j
        rw [if_neg (by omega)]
    · rw [if_pos (by simp [h])]
      unfold lkE
      by_cases h2 : p.1 = j
      · rw [if_pos h2, if_pos h2, if_neg (by omega)]
      · rw [if_neg h2, if_neg h2]; exact ih
theorem lkE_none {es : List (Int × Blk)} {k : Int} : lkE es k = none ↔ k ∉ es.map (·.1) := by
  induction es with
  | nil => simp [lkE]
  | cons p es ih =>
    unfold lkE
    by_cases h : p.1 = k
    · rw [if_pos h]; simp [h]
    · rw [if_neg h, ih]; simp; intro _ e; exact absurd e.symm h
theorem putE_new_len {es : List (Int × Blk)} {k : Int} (x : Blk) (h : lkE es k = none) : (putE es k x).length = es.length + 1 := by
  induction es with
  | nil => rfl
  | cons p es ih =>
    unfold lkE at h
    by_cases hp : p.1 = k
    · rw [if_pos hp] at h; cases h
    · rw [if_neg hp] at h
      unfold putE
      rw [if_neg hp, List.length_cons, ih h, List.length_cons]
theorem putE_old_len {es : List (Int × Blk)} {k : Int} (x y : Blk) (h : lkE es k = some y) : (putE es k x).length = es.length := by
  induction es with
  | nil => cases h
  | cons p es ih =>
    unfold putE
    by_cases hp : p.1 = k
    · rw [if_pos hp]; rfl
    · unfold lkE at h
      rw [if_neg hp] at h ⊢
      rw [List.length_cons, ih h, List.length_cons]
theorem delE_len {es : List (Int × Blk)} {k : Int} {y : Blk} (hn : (es.map (·.1)).Nodup) (h : lkE es k = some y) : (delE es k).length + 1 = es.length := by
  induction es with
  | nil => cases h
  | cons p es ih =>
    rw [List.map_cons, List.nodup_cons] at hn
    unfold delE at ih ⊢
    rw [List.filter_cons]
    by_cases hp : p.1 = k
    · rw [if_neg (by simp [hp])]
      have : es.filter (fun p => decide (p.1 ≠ k)) = es := List.filter_eq_self.2 fun q hq => by
        have : q.1 ≠ k := fun e => hn.1 (by rw [hp, ← e]; exact List.mem_map_of_mem hq)
        simpa using this
      rw [this, List.length_cons]
    · rw [if_pos (by simp [hp]), List.length_cons, List.length_cons]
      unfold lkE at h
      rw [if_neg hp] at h
      have := ih hn.2 h
      omega

theorem hasB_putB_iff {bs : List (List (Int × Int))} (x id y j : Int) (h : 0 < bs.length) : hasB (putB bs x id) y j ↔ hasB bs y j ∨ (y = x ∧ j = id) := by
  unfold hasB
  rw [bk_putB]
  unfold putB
  by_cases hk : bk bs y = bk bs x
  · rw [hk, getD_set_self (bk_lt h), List.mem_append, List.mem_singleton, Prod.mk.injEq]
  · rw [List.getD_eq_getElem?_getD, List.getElem?_set_ne (fun e => hk e.symm), ← List.getD_eq_getElem?_getD]
    constructor
    · exact .inl
    · rintro (h | ⟨rfl, rfl⟩)
      · exact h
      · exact absurd rfl hk
theorem hasB_cutB_iff {bs : List (List (Int × Int))} (x id y j : Int) (h : 0 < bs.length) (hn : NdB bs) : hasB (cutB bs x id) y j ↔ hasB bs y j ∧ ¬ (y = x ∧ j = id) := by
  unfold hasB
  rw [bk_cutB]
  unfold cutB
  by_cases hk : bk bs y = bk bs x
  · rw [hk, getD_set_self (bk_lt h), List.Nodup.mem_erase_iff (hn _), and_comm, ne_eq, Prod.mk.injEq]
  · rw [List.getD_eq_getElem?_getD, List.getElem?_set_ne (fun e => hk e.symm), ← List.getD_eq_getElem?_getD]
    constructor
    · exact fun h => ⟨h, fun e => hk (by rw [e.1])⟩
    · exact fun h => h.1

/-- A pool as it is behind whatever was done. -/
structure POk (es : List (Int × Blk)) (bs : List (List (Int × Int))) : Prop where
  inv : PInv es bs
  good : ∀ id t r, lkE es id = some (t, r) → 1 ≤ id ∧ 1 ≤ r ∧ t.size = 8 ∧ zeroB t = false
  uniq : ∀ id id' t r r', lkE es id = some (t, r) → lkE es id' = some (t, r') → id' = id
  len : lenB bs = es.length
  many : bs.length = 16
  nd : NdB bs
theorem POk.made : POk [] (List.replicate 16 []) where
  inv := fun x id => by
    constructor
    · intro h
      unfold hasB at h
      rw [List.getD_eq_getElem?_getD, List.getElem?_replicate] at h
      split at h <;> simp at h
    · rintro ⟨t, r, h, _⟩; cases h
  good := fun id t r h => by cases h
  uniq := fun id id' t r r' h => by cases h
  len := by decide
  many := by simp
  nd := NdB.nil 16
section
variable {es : List (Int × Blk)} {bs : List (List (Int × Int))}
theorem POk.isAt (h : POk es bs) {id : Int} {t : ByteArray} {r : Int} (hl : lkE es id = some (t, r)) : IsAt es t id := .inl ⟨r, hl, fun id' r' h' => h.uniq id id' t r r' hl h'⟩
theorem POk.pos (h : POk es bs) : 0 < bs.length := by rw [h.many]; omega
theorem POk.new (h : POk es bs) {R : Int} {b : ByteArray} (h1 : 1 ≤ R) (hR : lkE es R = none) (hb : b.size = 8) (hz : zeroB b = false) (hno : ∀ id r, lkE es id ≠ some (b, r)) : POk (putE es R (b, 1)) (putB bs (ofI b) R) where
  inv := fun x id => by
    rw [hasB_putB_iff _ _ _ _ h.pos, h.inv x id]
    by_cases e : id = R
    · subst e
      rw [lkE_put_same]
      constructor
      · rintro (⟨t, r, h1, _⟩ | ⟨rfl, _⟩)
        · rw [hR] at h1; cases h1
        · exact ⟨b, 1, rfl, rfl⟩
      · rintro ⟨t, r, h1, h2⟩
        cases h1
        exact .inr ⟨h2.symm, rfl⟩
    · rw [lkE_put_other _ _ e]
      constructor
      · rintro (h1 | ⟨_, h1⟩)
        · exact h1
        · exact absurd h1 e
      · exact .inl
  good := fun id t r hl => by
    by_cases e : id = R
    · subst e
      rw [lkE_put_same] at hl
      cases hl
      exact ⟨h1, by omega, hb, hz⟩
    · rw [lkE_put_other _ _ e] at hl
      exact h.good id t r hl
  uniq := fun id id' t r r' hl hl' => by
    by_cases e : id = R
    · subst e
      rw [lkE_put_same] at hl
      cases hl
      by_cases e' : id' = id
      · exact e'
      · rw [lkE_put_other _ _ e'] at hl'
        exact absurd hl' (hno _ _)
    · rw [lkE_put_other _ _ e] at hl
      by_cases e' : id' = R
      · subst e'
        rw [lkE_put_same] at hl'
        cases hl'
        exact absurd hl (hno _ _)
      · rw [lkE_put_other _ _ e'] at hl'
        exact h.uniq id id' t r r' hl hl'
  len := by rw [lenB_putB _ _ h.pos, putE_new_len _ hR, h.len]
  many := by unfold putB; rw [List.length_set, h.many]
  nd := h.nd.putB fun hb' => by
    obtain ⟨t, r, h1, _⟩ := (h.inv _ _).1 hb'
    rw [hR] at h1; cases h1
theorem POk.old (h : POk es bs) {R : Int} {b : ByteArray} {r r' : Int} (hR : lkE es R = some (b, r)) (hr : 1 ≤ r') : POk (putE es R (b, r')) bs where
  inv := fun x id => by
    rw [h.inv x id]
    by_cases e : id = R
    · subst e
      rw [lkE_put_same, hR]
      constructor
      · rintro ⟨t, r, h1, h2⟩; cases h1; exact ⟨_, _, rfl, h2⟩
      · rintro ⟨t, r, h1, h2⟩; cases h1; exact ⟨_, _, rfl, h2⟩
    · rw [lkE_put_other _ _ e]
  good := fun id t q hl => by
    by_cases e : id = R
    · subst e
      rw [lkE_put_same] at hl
      cases hl
      have := h.good _ _ _ hR
      exact ⟨this.1, hr, this.2.2⟩
    · rw [lkE_put_other _ _ e] at hl
      exact h.good id t q hl
  uniq := fun id id' t q q' hl hl' => by
    have key : ∀ i u v, lkE (putE es R (b, r')) i = some (u, v) → ∃ v', lkE es i = some (u, v') := fun i u v hi => by
      by_cases e : i = R
      · subst e
        rw [lkE_put_same] at hi
        cases hi
        exact ⟨r, hR⟩
      · rw [lkE_put_other _ _ e] at hi
        exact ⟨v, hi⟩
    obtain ⟨v1, h1⟩ := key _ _ _ hl
    obtain ⟨v2, h2⟩ := key _ _ _ hl'
    exact h.uniq _ _ _ _ _ h1 h2
  len := by rw [putE_old_len _ _ hR, h.len]
  many := h.many
  nd := h.nd
theorem POk.gone (h : POk es bs) (hnd : (es.map (·.1)).Nodup) {R : Int} {b : ByteArray} {r : Int} (hR : lkE es R = some (b, r)) : POk (delE es R) (cutB bs (ofI b) R) where
  inv := fun x id => by
    rw [hasB_cutB_iff _ _ _ _ h.pos h.nd, h.inv x id, lkE_del]
    by_cases e : id = R
    · subst e
      rw [if_pos rfl]
      constructor
      · rintro ⟨⟨t, r, h1, h2⟩, h3⟩
        rw [hR] at h1
        cases h1
        exact absurd ⟨h2.symm, rfl⟩ h3
      · rintro ⟨t, r, h1, _⟩; cases h1
    · rw [if_neg e]
      constructor
      · exact fun h => h.1
      · exact fun h => ⟨h, fun h' => e h'.2⟩
  good := fun id t q hl => by
    rw [lkE_del] at hl
    split at hl
    · cases hl
    · exact h.good id t q hl
  uniq := fun id id' t q q' hl hl' => by
    rw [lkE_del] at hl hl'
    split at hl
    · cases hl
    · split at hl'
      · cases hl'
      · exact h.uniq id id' t q q' hl hl'
  len := by
    have h1 := delE_len hnd hR
    have h2 := lenB_cutB (x := ofI b) (id := R) h.pos ((h.inv _ _).2 ⟨b, r, hR, rfl⟩)
    have := h.len
    omega
  many := by rw [cutB_length, h.many]
  nd := h.nd.set (List.Nodup.erase _ (h.nd _))
end
end Go.Proofs.YtnpgjdhigcjihaaGreatDoor
/- Package pool by its blocks alone: one contract for each answer. -/
namespace Go.Proofs.YtnpgjdhigcjihaaGreatDoor
open Go.RowKit

/-- The pool s has room for so many, and has these blocks. -/
def Pl (w : World) (G : Nat → Prop) (s : Value) (most : Int) (es : List (Int × Blk)) : Prop := ∃ bs, PoolIs w G s most es bs ∧ POk es bs
section
variable {w w' : World} {G : Nat → Prop} {s : Value} {most : Int} {es : List (Int × Blk)}
theorem Pl.below (h : Pl w G s most es) (hb : Below w.heap.size w w') : Pl w' G s most es := by
  obtain ⟨bs, h1, h2⟩ := h
  exact ⟨bs, h1.below hb, h2⟩
theorem Pl.drewN (h : Pl w G s most es) (n : Nat) : Pl (w.drewN n) G s most es := h
theorem Pl.ptr (h : Pl w G s most es) : ∃ p, s = .pointer (some ⟨p, 0, none⟩) := by
  obtain ⟨bs, h1, _⟩ := h
  exact h1.ptr
theorem Pl.good (h : Pl w G s most es) {id : Int} {t : ByteArray} {r : Int} (hl : lkE es id = some (t, r)) : 1 ≤ id ∧ 1 ≤ r ∧ t.size = 8 ∧ zeroB t = false := by
  obtain ⟨bs, _, h2⟩ := h
  exact h2.good _ _ _ hl
theorem Pl.uniq (h : Pl w G s most es) {id id' : Int} {t : ByteArray} {r r' : Int} (hl : lkE es id = some (t, r)) (hl' : lkE es id' = some (t, r')) : id' = id := by
  obtain ⟨bs, _, h2⟩ := h
  exact h2.uniq _ _ _ _ _ hl hl'
theorem Pl.nodup (h : Pl w G s most es) : (es.map (·.1)).Nodup := by
  obtain ⟨bs, h1, _⟩ := h
  exact h1.nodup
theorem pl_new (most : Int) (w : World) (hG : ∀ k, w.heap.size ≤ k → G k) :
    Calls Tryz.prog 5 #[.int .i64 most] w fun e w' => ∃ p, e = .returned (.pointer (some ⟨p, 0, none⟩)) ∧ Pl w' G (.pointer (some ⟨p, 0, none⟩)) (min (max most 0) 60) [] ∧ Below w.heap.size w w' :=
  (pnew_any most w hG).mono fun _ _ ⟨p, h1, h2, h3⟩ => ⟨p, h1, ⟨_, h2, POk.made⟩, h3⟩
theorem pl_put_bad (b : ByteArray) (h : Pl w G s most es) (hb : b.size ≠ 8) :
    Calls Tryz.prog 7 #[s, .string b] w fun e w' => e = .returned (.tuple #[.int .i64 0, .int .i64 1]) ∧ w' = w := by
  obtain ⟨bs, h1, h2⟩ := h
  exact pput_bad b h1 hb
theorem pl_put_zero (b : ByteArray) (h : Pl w G s most es) (hb : b.size = 8) (hz : zeroB b = true) :
    Calls Tryz.prog 7 #[s, .string b] w fun e w' => e = .returned (.tuple #[.int .i64 0, .int .i64 0]) ∧ Pl w' G s most es ∧ Below w.heap.size w w' := by
  obtain ⟨bs, h1, h2⟩ := h
  exact (pput_zero b h1 hb hz).mono fun _ _ ⟨a, b, c⟩ => ⟨a, ⟨bs, b, h2⟩, c⟩
theorem pl_put_had (b : ByteArray) (R r : Int) (h : Pl w G s most es) (hG : ∀ k, w.heap.size ≤ k → G k) (hl : es.length ≤ 1000) (hn : lkE es R = some (b, r)) (hr : r ≤ 100000) :
    Calls Tryz.prog 7 #[s, .string b] w fun e w' => e = .returned (.tuple #[.int .i64 R, .int .i64 0]) ∧ Pl w' G s most (putE es R (b, r + 1)) ∧ Chg G w w' := by
  obtain ⟨bs, h1, h2⟩ := h
  obtain ⟨g1, g2, g3, g4⟩ := h2.good _ _ _ hn
  exact (pput_had b R r h1 hG h2.inv (by rw [h2.len]; omega) g3 g4 (h2.isAt hn) (by omega) hn g2 hr).mono fun _ _ ⟨a, b, c⟩ => ⟨a, ⟨bs, b, h2.old hn (by omega)⟩, c⟩
theorem pl_put_full (b : ByteArray) (h : Pl w G s most es) (hb : b.size = 8) (hz : zeroB b = false) (hno : ∀ id r, lkE es id ≠ some (b, r)) (hm0 : 0 ≤ most) (hm1 : most ≤ 1000) (hful : (es.length : Int) = most) :
    Calls Tryz.prog 7 #[s, .string b] w fun e w' => e = .returned (.tuple #[.int .i64 0, .int .i64 5]) ∧ Pl w' G s most es ∧ Below w.heap.size w w' := by
  obtain ⟨bs, h1, h2⟩ := h
  exact (pput_full b h1 h2.inv (by rw [h2.len]; omega) hb hz hno hm0 hm1 hful).mono fun _ _ ⟨a, b, c⟩ => ⟨a, ⟨bs, b, h2⟩, c⟩
theorem pl_put_new (b : ByteArray) (R : Int) (h : Pl w G s most es) (hG : ∀ k, w.heap.size ≤ k → G k) (hb : b.size = 8) (hz : zeroB b = false) (hno : ∀ id r, lkE es id ≠ some (b, r)) (hm0 : 0 ≤ most) (hm1 : most ≤ 1000) (hful : (es.length : Int) < most)
    (hR : Least es R) (hR2 : R ≤ 1000000) :
    Calls Tryz.prog 7 #[s, .string b] w fun e w' => e = .returned (.tuple #[.int .i64 R, .int .i64 0]) ∧ Pl w' G s most (putE es R (b, 1)) ∧ Chg G w w' := by
  obtain ⟨bs, h1, h2⟩ := h
  exact (pput_new b R h1 hG h2.inv (by rw [h2.len]; omega) hb hz hno hm0 hm1 hful hR hR2).mono fun _ _ ⟨a, b, c⟩ => ⟨a, ⟨_, b, h2.new hR.1 hR.2.1 hb hz hno⟩, c⟩
theorem pl_drop_none (id : Int) (h : Pl w G s most es) (h0 : id ≠ 0) (hn : lkE es id = none) :
    Calls Tryz.prog 10 #[s, .int .i64 id] w fun e w' => e = .returned (.int .i64 2) ∧ w' = w := by
  obtain ⟨bs, h1, h2⟩ := h
  obtain ⟨p, rfl⟩ := h1.ptr
  exact drop_of id 2 p (fun w' => w' = w) (turn_none id (-1) h1 h0 hn)
theorem pl_drop_down (id : Int) (t : ByteArray) (r : Int) (h : Pl w G s most es) (hG : ∀ k, w.heap.size ≤ k → G k) (hn : lkE es id = some (t, r)) (hr : 2 ≤ r) (hr2 : r ≤ 100000) :
    Calls Tryz.prog 10 #[s, .int .i64 id] w fun e w' => e = .returned (.int .i64 0) ∧ Pl w' G s most (putE es id (t, r - 1)) ∧ Chg G w w' := by
  obtain ⟨bs, h1, h2⟩ := h
  obtain ⟨p, rfl⟩ := h1.ptr
  have hg := h2.good _ _ _ hn
  exact (drop_of id 0 p _ (turn_up id (-1) t r h1 hG (by omega) hn (by omega) (by omega) (by omega) (by omega) (by omega) (by omega))).mono fun _ _ ⟨a, b, c⟩ => ⟨a, ⟨bs, b, h2.old hn (by omega)⟩, c⟩
theorem pl_drop_last (id : Int) (t : ByteArray) (h : Pl w G s most es) (hG : ∀ k, w.heap.size ≤ k → G k) (hn : lkE es id = some (t, 1)) :
    Calls Tryz.prog 10 #[s, .int .i64 id] w fun e w' => e = .returned (.int .i64 0) ∧ Pl w' G s most (delE es id) ∧ Chg G w w' := by
  obtain ⟨bs, h1, h2⟩ := h
  obtain ⟨p, rfl⟩ := h1.ptr
  have hg := h2.good _ _ _ hn
  exact (drop_of id 0 p _ (turn_drop id t h1 hG (by omega) hn (by omega) ((h2.inv _ _).2 ⟨t, 1, hn, rfl⟩))).mono fun _ _ ⟨a, b, c⟩ => ⟨a, ⟨_, b, h2.gone h1.nodup hn⟩, c⟩
theorem pl_refs (id : Int) (h : Pl w G s most es) (t : ByteArray) (r : Int) (hn : (lkE es id).getD (⟨#[]⟩, 0) = (t, r)) :
    Calls Tryz.prog 18 #[s, .int .i64 id] w fun e w' => e = .returned (.int .i64 r) ∧ w' = w := by
  obtain ⟨bs, h1, h2⟩ := h
  exact refs_any id h1 t r hn
theorem pl_room (h : Pl w G s most es) (h0 : 0 ≤ most) (h1 : most ≤ 1000) (hl : es.length ≤ 1000) (n : Int) (hn : most - (es.length : Int) = n) :
    Calls Tryz.prog 22 #[s] w fun e w' => e = .returned (.int .i64 n) ∧ ∃ q, w' = w.drewN q := by
  obtain ⟨bs, h2, h3⟩ := h
  subst hn
  exact room_any h2 h0 h1 hl
theorem pl_find (b : ByteArray) (R : Int) (h : Pl w G s most es) (hl : es.length ≤ 1000) (hb : b.size ≤ 1000000) (hR : IsAt es b R) :
    Calls Tryz.prog 19 #[s, .string b] w fun e w' => e = .returned (.int .i64 R) ∧ Pl w' G s most es ∧ Below w.heap.size w w' := by
  obtain ⟨bs, h1, h2⟩ := h
  exact (pfind_any b h1 h2.inv (by rw [h2.len]; omega) hb R hR).mono fun _ _ ⟨a, c⟩ => ⟨a, ⟨bs, h1.below c, h2⟩, c⟩
end
end Go.Proofs.YtnpgjdhigcjihaaGreatDoor
/- Package pool: how many blocks there are. -/
namespace Go.Proofs.YtnpgjdhigcjihaaGreatDoor
open Go.RowKit
section
variable {w : World} {G : Nat → Prop} {s : Value} {most : Int} {es : List (Int × Blk)} {bs : List (List (Int × Int))}
theorem plen_any (h : PoolIs w G s most es bs) :
    Calls Tryz.prog 21 #[s] w fun e w' => e = .returned (.int .i64 es.length) ∧ w' = w := by
  have HP := hide h
  obtain ⟨p, m, q, rfl, h2, h3, h4, h5, h6, h7, h8, h9, h10, h11⟩ := h
  have hlen := fun ty => run_len_is (P := Tryz.prog) h10 Tryz.underlying61 ty
  rw [esV_len] at hlen
  clear h11 h10
  go_enter Tryz.func21, Tryz.ntmps21
  go_wp2_with (go_at_call 27; refine (pnone_any (unhide HP)).mono ?_; rintro e w' ⟨he, hw⟩; subst he; subst hw)
  go_ret
  exact ⟨rfl, rfl⟩
end
section
variable {w w' : World} {G : Nat → Prop} {s : Value} {most : Int} {es : List (Int × Blk)}
theorem pl_len (h : Pl w G s most es) (n : Int) (hn : (es.length : Int) = n) :
    Calls Tryz.prog 21 #[s] w fun e w' => e = .returned (.int .i64 n) ∧ w' = w := by
  obtain ⟨bs, h1, h2⟩ := h
  subst hn
  exact plen_any h1
end
end Go.Proofs.YtnpgjdhigcjihaaGreatDoor
/- Walks of package pool: no pool at all. -/
namespace Go.Proofs.YtnpgjdhigcjihaaGreatDoor
open Go.RowKit

set_option maxHeartbeats 1000000 in
theorem nil_none (w : World) :
    Calls Tryz.prog 27 #[.pointer none] w fun e w' => e = .returned (.bool true) ∧ w' = w := by
  go_enter Tryz.func27, Tryz.ntmps27
  go_wp2_with (fail)
  go_ret
  exact ⟨rfl, rfl⟩
set_option maxHeartbeats 1000000 in
theorem nil_put (w : World) (b : ByteArray) :
    Calls Tryz.prog 7 #[.pointer none, .string b] w fun e w' => e = .returned (.tuple #[.int .i64 0, .int .i64 1]) ∧ w' = w := by
  go_enter Tryz.func7, Tryz.ntmps7
  go_wp2_with (go_at_call 27; refine (nil_none _).mono ?_; rintro e w' ⟨he, hw⟩; subst he; obtain rfl := hw.symm)
  go_ret2
  exact ⟨rfl, rfl⟩
set_option maxHeartbeats 1000000 in
theorem nil_there (w : World) (id : Int) :
    Calls Tryz.prog 36 #[.pointer none, .int .i64 id] w fun e w' => e = .returned (.int .i64 1) ∧ w' = w := by
  go_enter Tryz.func36, Tryz.ntmps36
  go_wp2_with (go_at_call 27; refine (nil_none _).mono ?_; rintro e w' ⟨he, hw⟩; subst he; obtain rfl := hw.symm)
  go_ret
  exact ⟨rfl, rfl⟩
set_option maxHeartbeats 1000000 in
theorem nil_get (w : World) (id : Int) :
    Calls Tryz.prog 14 #[.pointer none, .int .i64 id] w fun e w' => e = .returned (.tuple #[.string ⟨#[]⟩, .int .i64 1]) ∧ w' = w := by
  go_enter Tryz.func14, Tryz.ntmps14
  go_wp2_with (go_at_call 36; refine (nil_there _ _).mono ?_; rintro e w' ⟨he, hw⟩; subst he; obtain rfl := hw.symm)
  go_ret2
  exact ⟨rfl, rfl⟩
set_option maxHeartbeats 1000000 in
theorem nil_turn (w : World) (id : Int) (by' : Int) :
    Calls Tryz.prog 32 #[.pointer none, .int .i64 id, .int .i64 by'] w fun e w' => e = .returned (.int .i64 1) ∧ w' = w := by
  go_enter Tryz.func32, Tryz.ntmps32
  go_wp2_with (go_at_call 36; refine (nil_there _ _).mono ?_; rintro e w' ⟨he, hw⟩; subst he; obtain rfl := hw.symm)
  go_ret
  exact ⟨rfl, rfl⟩
set_option maxHeartbeats 1000000 in
theorem nil_hold (w : World) (id : Int) :
    Calls Tryz.prog 9 #[.pointer none, .int .i64 id] w fun e w' => e = .returned (.int .i64 1) ∧ w' = w := by
  go_enter Tryz.func9, Tryz.ntmps9
  go_wp2_with (go_at_call 32; refine (nil_turn _ _ _).mono ?_; rintro e w' ⟨he, hw⟩; subst he; obtain rfl := hw.symm)
  go_ret
  exact ⟨rfl, rfl⟩
set_option maxHeartbeats 1000000 in
theorem nil_drop (w : World) (id : Int) :
    Calls Tryz.prog 10 #[.pointer none, .int .i64 id] w fun e w' => e = .returned (.int .i64 1) ∧ w' = w := by
  go_enter Tryz.func10, Tryz.ntmps10
  go_wp2_with (go_at_call 32; refine (nil_turn _ _ _).mono ?_; rintro e w' ⟨he, hw⟩; subst he; obtain rfl := hw.symm)
  go_ret
  exact ⟨rfl, rfl⟩
set_option maxHeartbeats 1000000 in
theorem nil_refs (w : World) (id : Int) :
    Calls Tryz.prog 18 #[.pointer none, .int .i64 id] w fun e w' => e = .returned (.int .i64 0) ∧ w' = w := by
  go_enter Tryz.func18, Tryz.ntmps18
  go_wp2_with (go_at_call 27; refine (nil_none _).mono ?_; rintro e w' ⟨he, hw⟩; subst he; obtain rfl := hw.symm)
  go_ret
  exact ⟨rfl, rfl⟩
set_option maxHeartbeats 1000000 in
theorem nil_find (w : World) (b : ByteArray) :
    Calls Tryz.prog 19 #[.pointer none, .string b] w fun e w' => e = .returned (.int .i64 0) ∧ w' = w := by
  go_enter Tryz.func19, Tryz.ntmps19
  go_wp2_with (go_at_call 27; refine (nil_none _).mono ?_; rintro e w' ⟨he, hw⟩; subst he; obtain rfl := hw.symm)
  go_ret
  exact ⟨rfl, rfl⟩
set_option maxHeartbeats 1000000 in
theorem nil_all (w : World) :
    Calls Tryz.prog 12 #[.pointer none] w fun e w' => e = .returned (.slice none 0 0) ∧ w' = w := by
  go_enter Tryz.func12, Tryz.ntmps12
  go_wp2_with (go_at_call 27; refine (nil_none _).mono ?_; rintro e w' ⟨he, hw⟩; subst he; obtain rfl := hw.symm)
  go_ret
  exact ⟨rfl, rfl⟩
set_option maxHeartbeats 1000000 in
theorem nil_len (w : World) :
    Calls Tryz.prog 21 #[.pointer none] w fun e w' => e = .returned (.int .i64 0) ∧ w' = w := by
  go_enter Tryz.func21, Tryz.ntmps21
  go_wp2_with (go_at_call 27; refine (nil_none _).mono ?_; rintro e w' ⟨he, hw⟩; subst he; obtain rfl := hw.symm)
  go_ret
  exact ⟨rfl, rfl⟩
set_option maxHeartbeats 1000000 in
theorem nil_room (w : World) :
    Calls Tryz.prog 22 #[.pointer none] w fun e w' => e = .returned (.int .i64 0) ∧ w' = w := by
  go_enter Tryz.func22, Tryz.ntmps22
  go_wp2_with (go_at_call 27; refine (nil_none _).mono ?_; rintro e w' ⟨he, hw⟩; subst he; obtain rfl := hw.symm)
  go_ret
  exact ⟨rfl, rfl⟩
set_option maxHeartbeats 1000000 in
theorem nil_copy (w : World) :
    Calls Tryz.prog 11 #[.pointer none] w fun e w' => e = .returned (.pointer none) ∧ w' = w := by
  go_enter Tryz.func11, Tryz.ntmps11
  go_wp2_with (go_at_call 27; refine (nil_none _).mono ?_; rintro e w' ⟨he, hw⟩; subst he; obtain rfl := hw.symm)
  go_ret
  exact ⟨rfl, rfl⟩
end Go.Proofs.YtnpgjdhigcjihaaGreatDoor
