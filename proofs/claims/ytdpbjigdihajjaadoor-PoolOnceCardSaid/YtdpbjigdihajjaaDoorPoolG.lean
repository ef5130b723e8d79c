/- Walk of package pool: turn. -/
import Derived.Test.YtdpbjigdihajjaaDoorPoolF
namespace Go.Proofs.YtdpbjigdihajjaaDoor
open Go.RowKit

section
variable {w : World} {G : Nat → Prop} {s : Value} {most : Int} {es : List (Int × Blk)} {bs : List (List (Int × Int))}
set_option maxRecDepth 100000 in
theorem turn_none (id by' : Int) (h : PoolIs w G s most es bs) (h0 : id ≠ 0) (hn : lkE es id = none) :
    Calls Tryd.prog 34 #[s, .int .i64 id, .int .i64 by'] w fun e w' => e = .returned (.int .i64 2) ∧ w' = w := by
  have HP := hide h
  obtain ⟨p, rfl⟩ := h.ptr
  have H0 := hide h0
  have Hn := hide hn
  clear h h0 hn
  go_enter Tryd.func34, Tryd.ntmps34
  go_wp2_with (go_at_call 35; refine (there_no id (unhide HP) (unhide H0) (unhide Hn)).mono ?_; rintro e w' ⟨he, hw⟩; subst he; subst hw)
  go_ret
  exact ⟨rfl, rfl⟩
set_option maxRecDepth 100000 in
theorem turn_zero (by' : Int) (h : PoolIs w G s most es bs) :
    Calls Tryd.prog 34 #[s, .int .i64 0, .int .i64 by'] w fun e w' => e = .returned (.int .i64 0) ∧ w' = w := by
  have HP := hide h
  obtain ⟨p, rfl⟩ := h.ptr
  clear h
  go_enter Tryd.func34, Tryd.ntmps34
  go_wp2_with (go_at_call 35; refine (there_zero (unhide HP)).mono ?_; rintro e w' ⟨he, hw⟩; subst he; subst hw)
  go_ret
  exact ⟨rfl, rfl⟩

set_option maxHeartbeats 2000000 in
set_option maxRecDepth 100000 in
theorem turn_up (id by' : Int) (t : ByteArray) (r : Int) (h : PoolIs w G s most es bs) (hG : ∀ k, w.heap.size ≤ k → G k) (h0 : id ≠ 0) (hn : lkE es id = some (t, r)) (hr : r ≠ 0) (hs : r + by' ≠ 0)
    (hb1 : -1000000 ≤ r) (hb2 : r ≤ 1000000) (hb3 : -1000000 ≤ by') (hb4 : by' ≤ 1000000) :
    Calls Tryd.prog 34 #[s, .int .i64 id, .int .i64 by'] w fun e w' => e = .returned (.int .i64 0) ∧ PoolIs w' G s most (putE es id (t, r + by')) bs ∧ Chg G w w' := by
  have HP := hide h
  obtain ⟨p, m, q, rfl, h2, h3, h4, h5, h6, h7, h8, h9, h10, h11⟩ := h
  have q1 : (id == 0) = false := beq_eq_false_iff_ne.2 h0
  have q2 : (r + by' == 0) = false := beq_eq_false_iff_ne.2 hs
  obtain ⟨W0, hW0⟩ : ∃ W0, W0 = w.alloc (.cells #[.string t, .int .i64 (r + by')] 70) := ⟨_, rfl⟩
  have B0 : Below w.heap.size w W0 := by rw [hW0]; exact (Below.refl _ _).alloc (Nat.le_refl _) _
  have c0 : W0.cell? ⟨w.heap.size, 0, none⟩ = some (.string t) := by rw [hW0]; exact World.cell?_alloc_at _ _ _ _ rfl
  have c1 : W0.cell? ⟨w.heap.size, 1, none⟩ = some (.int .i64 (r + by')) := by rw [hW0]; exact World.cell?_alloc_at _ _ _ _ rfl
  have s0 : W0.heap.size = w.heap.size + 1 := by rw [hW0]; simp
  have d1 := ((bcell B0).1 p 1 h2).trans h8
  have HM0 := hide h10
  have HM := hide (h10.below B0)
  have HS := hide (h11.below B0)
  have l1 : w.heap.size < W0.drew.heap.size := by show w.heap.size < W0.heap.size; omega
  have n1 : some w.heap.size ≠ some m := fun e => by injection e with e; omega
  have H0 := hide h0
  have Hn := hide hn
  have Hr := hide hr
  have Htr := hide (show (lkE es id).getD (⟨#[]⟩, 0) = (t, r) by rw [hn]; rfl)
  have H7 := hide h7
  have H8 := hide h8
  have H9 := hide h9
  have Hs0 := hide s0
  clear h10 h11 h9 h7 s0 h0 hn hr hs
  go_enter Tryd.func34, Tryd.ntmps34
  go_wp2_with (first | (go_at_call 35; refine (there_yes id (unhide HP) (unhide H0) t r (unhide Hn) (unhide Hr)).mono ?_; rintro e w' ⟨he, hw⟩; subst he; subst hw) | (at_lookup; refine wpList_lookup_blk rfl _ _ rfl es m rfl (unhide HM0) id rfl t r (unhide Htr) ?_))
  rw [← hW0]
  clear hW0
  go_still_tail 6, (by kernel_rfl)
  change wpList _ _ _ _ _ W0.drew
  go_wp2_with (at_mapUpdate; refine wpList_update_is rfl _ _ _ _ rfl kInt (esV es) 3 70 Tryd.underlying62 Tryd.underlying3 m rfl ((unhide HM).drewN 1) id rfl (blkV (t, r + by')) rfl ?_; intro w1 HM1 HG1; have g1 := (HG1.cell_far ⟨w'.heap.size, 1, none⟩ l1 n1).trans c1)
  go_ret
  have sz0 := unhide Hs0
  have sz1 : W0.heap.size ≤ w1.heap.size := HG1.size
  have hpm : some p ≠ some m := fun e => h6 (by injection e)
  have e1 : w1.heap[p]? = W0.heap[p]? := HG1.block p (by show p < W0.heap.size; omega) hpm
  have hC1 : Chg (fun k => k = m) W0 w1 := Chg.of_grown (row := some m) ⟨HG1.os, HG1.tape, HG1.output, HG1.size, HG1.block⟩ sz1 fun k hk => by injection hk with hk; exact hk.symm
  have HS1 := (unhide HS).chg hC1 fun k hk e => hk.2.2 e
  rw [put_esV] at HM1
  exact ⟨rfl, PoolIs.turned h2 h3 h4 h5 h6 (unhide H7) (unhide H8) (unhide H9) (show w'.heap.size ≤ w1.heap.size by omega) (e1.trans (B0.block p h2)) HM1 (Chg.refl _ _) HS1, Chg.below_trans B0 (hC1.mono fun k _ hk => hk ▸ h5)⟩
end
end Go.Proofs.YtdpbjigdihajjaaDoor
