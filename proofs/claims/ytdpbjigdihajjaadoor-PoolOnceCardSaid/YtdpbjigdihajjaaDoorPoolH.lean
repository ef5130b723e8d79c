/- Walk of package pool: turn, where a block is let go for good. -/
import Derived.Test.YtdpbjigdihajjaaDoorPoolG
namespace Go.Proofs.YtdpbjigdihajjaaDoor
open Go.RowKit

theorem delE_putE (es : List (Int × Blk)) (k : Int) (x : Blk) : delE (putE es k x) k = delE es k := by
  unfold delE
  induction es with
  | nil => simp [putE]
  | cons p es ih =>
    unfold putE
    by_cases h : p.1 = k
    · rw [if_pos h, List.filter_cons, List.filter_cons]
      simp [h]
    · rw [if_neg h, List.filter_cons, List.filter_cons, ih]
section
variable {w : World} {G : Nat → Prop} {s : Value} {most : Int} {es : List (Int × Blk)} {bs : List (List (Int × Int))}
set_option maxHeartbeats 2000000 in
set_option maxRecDepth 100000 in
theorem turn_drop (id : Int) (t : ByteArray) (h : PoolIs w G s most es bs) (hG : ∀ k, w.heap.size ≤ k → G k) (h0 : id ≠ 0) (hn : lkE es id = some (t, 1)) (hb : t.size ≤ 1000000) (hh : hasB bs (ofI t) id) :
    Calls Tryd.prog 34 #[s, .int .i64 id, .int .i64 (-1)] w fun e w' => e = .returned (.int .i64 0) ∧ PoolIs w' G s most (delE es id) (cutB bs (ofI t) id) ∧ Chg G w w' := by
  have HP := hide h
  obtain ⟨p, m, q, rfl, h2, h3, h4, h5, h6, h7, h8, h9, h10, h11⟩ := h
  have q1 : (id == 0) = false := beq_eq_false_iff_ne.2 h0
  obtain ⟨x, hx⟩ : ∃ x, x = ofI t := ⟨_, rfl⟩
  have hxb := ofI_bd t
  rw [← hx] at hxb hh ⊢
  have hx0 := hxb.1
  have hx1 := hxb.2
  have hof : ∀ w1 : World, Calls Tryd.prog 38 #[.string t] w1 fun e w' => e = .returned (.int .u32 x) ∧ w' = w1 := fun w1 => by rw [hx]; exact of_any t w1 hb
  obtain ⟨W0, hW0⟩ : ∃ W0, W0 = w.alloc (.cells #[.string t, .int .i64 0] 70) := ⟨_, rfl⟩
  have B0 : Below w.heap.size w W0 := by rw [hW0]; exact (Below.refl _ _).alloc (Nat.le_refl _) _
  have c0 : W0.cell? ⟨w.heap.size, 0, none⟩ = some (.string t) := by rw [hW0]; exact World.cell?_alloc_at _ _ _ _ rfl
  have c1 : W0.cell? ⟨w.heap.size, 1, none⟩ = some (.int .i64 0) := by rw [hW0]; exact World.cell?_alloc_at _ _ _ _ rfl
  have s0 : W0.heap.size = w.heap.size + 1 := by rw [hW0]; simp
  have d1 := ((bcell B0).1 p 1 h2).trans h8
  have d2 := ((bcell B0).1 p 2 h2).trans h9
  have HM0 := hide h10
  have HM := hide (h10.below B0)
  have HS := hide (h11.below B0)
  have l1 : w.heap.size < W0.drew.heap.size := by show w.heap.size < W0.heap.size; omega
  have l2 : p < W0.drew.heap.size := by show p < W0.heap.size; omega
  have n1 : some w.heap.size ≠ some m := fun e => by injection e with e; omega
  have n2 : some p ≠ some m := fun e => h6 (by injection e)
  have H0 := hide h0
  have Hn := hide hn
  have Hof := hide hof
  have Hh := hide hh
  have Htr := hide (show (lkE es id).getD (⟨#[]⟩, 0) = (t, 1) by rw [hn]; rfl)
  have H7 := hide h7
  have H8 := hide h8
  have H9 := hide h9
  have Hs0 := hide s0
  clear h10 h11 h9 h7 s0 h0 hn hx hof hxb hh
  go_enter Tryd.func34, Tryd.ntmps34
  go_wp2_with (first | (go_at_call 35; refine (there_yes id (unhide HP) (unhide H0) t 1 (unhide Hn) (by decide)).mono ?_; rintro e w' ⟨he, hw⟩; subst he; subst hw) | (at_lookup; refine wpList_lookup_blk rfl _ _ rfl es m rfl (unhide HM0) id rfl t 1 (unhide Htr) ?_))
  rw [← hW0]
  clear hW0
  go_still_tail 6, (by kernel_rfl)
  change wpList _ _ _ _ _ W0.drew
  go_wp2_with (first | (at_mapUpdate; refine wpList_update_is rfl _ _ _ _ rfl kInt (esV es) 3 70 Tryd.underlying62 Tryd.underlying3 m rfl ((unhide HM).drewN 1) id rfl (blkV (t, 0)) rfl ?_; intro w1 HM1 HG1; have g1 := (HG1.cell_far ⟨w'.heap.size, 1, none⟩ l1 n1).trans c1; have g0 := (HG1.cell_far ⟨w'.heap.size, 0, none⟩ l1 n1).trans c0; have e1 := (HG1.cell_far ⟨p, 1, none⟩ l2 n2).trans d1; have e2 := (HG1.cell_far ⟨p, 2, none⟩ l2 n2).trans d2; have l3 := Nat.lt_of_lt_of_le l1 HG1.size; have l4 := Nat.lt_of_lt_of_le l2 HG1.size) | (at_delete; refine wpList_delete_is rfl _ _ _ _ rfl kInt (put (esV es) id (blkV (t, 0))) 3 70 Tryd.underlying62 Tryd.underlying3 m rfl HM1 id rfl ?_; intro w2 HM2 HG2; have k0 := (HG2.cell_far ⟨w'.heap.size, 0, none⟩ l3 n1).trans g0; have k2 := (HG2.cell_far ⟨p, 2, none⟩ l4 n2).trans e2))
  have sz0 := unhide Hs0
  have sz1 : W0.heap.size ≤ w1.heap.size := HG1.size
  have sz2 : w1.heap.size ≤ w2.heap.size := HG2.size
  have hC1 : Chg (fun k => k = m) W0 w1 := Chg.of_grown (row := some m) ⟨HG1.os, HG1.tape, HG1.output, HG1.size, HG1.block⟩ sz1 fun k hk => by injection hk with hk; exact hk.symm
  have hC2 : Chg (fun k => k = m) w1 w2 := Chg.of_grown HG2 sz2 fun k hk => by injection hk with hk; exact hk.symm
  have hC := hC1.trans hC2
  have HS2 := hide ((unhide HS).chg hC fun k hk e => hk.2.2 e)
  rw [put_esV, del_esV, delE_putE] at HM2
  have hE2 : w2.heap[p]? = w'.heap[p]? := (hC.block p (by omega) h6).trans (B0.block p h2)
  have HE2 := hide hE2
  have HMf := hide HM2
  have HC := hide hC
  have hF : ∀ k, w2.heap.size ≤ k → G k ∧ k ≠ p ∧ k ≠ m := fun k hk => ⟨hG k (by omega), by omega, by omega⟩
  have HF := hide hF
  clear hE2 hC hC1 hC2 HM1 HM2 HG1 HG2 g0 g1 e1 e2 c0 c1 d1 d2 hF HS HM
  refine wp_region_still_tail 8 (by kernel_rfl) (by kernel_rfl) ?_
  simp only [List.take_succ_cons, List.take_zero, List.drop_succ_cons, List.drop_zero]
  repeat still_step
  still_call (unhide Hof _)
  repeat still_step
  refine wpStill_nil ?_
  change wpList _ _ _ _ _ w2.drew
  go_wp2_with (go_at_call 52; refine (cut_yesG x id (ShelfIs.drewN (unhide HS2) 1) (unhide HF) hx0 hx1 (unhide Hh)).mono ?_; rintro e w3 ⟨he, hS3, hC3⟩; subst he)
  go_ret
  refine ⟨rfl, PoolIs.turned h2 h3 h4 h5 h6 (unhide H7) (unhide H8) (unhide H9) (show w'.heap.size ≤ w2.heap.size by omega) (unhide HE2) (unhide HMf) hC3.of_drewN hS3, ?_⟩
  exact Chg.below_trans B0 (((unhide HC).mono fun k _ hk => hk ▸ h5).trans (hC3.of_drewN.mono fun k _ hk => hk.1))
end
end Go.Proofs.YtdpbjigdihajjaaDoor
