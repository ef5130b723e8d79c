/- Walk of package pool: add. -/
import Derived.Test.YtdpbjigdihajjaaDoorPoolC
import Derived.StillTailTactics
namespace Go.Proofs.YtdpbjigdihajjaaDoor
open Go.RowKit

theorem Chg.of_drewN {F : Nat → Prop} {a b : World} {n : Nat} (h : Chg F (a.drewN n) b) : Chg F a b := ⟨h.os, h.tape, h.output, h.size, h.block⟩
theorem Chg.below_trans {F : Nat → Prop} {a b c : World} (h : Below a.heap.size a b) (k : Chg F b c) : Chg F a c := (Chg.of_below h).trans k
section
variable {w : World} {G : Nat → Prop} {s : Value} {most : Int} {es : List (Int × Blk)} {bs : List (List (Int × Int))}
/-- The pool behind a store into its map and a change of its shelf. -/
theorem PoolIs.turned {w1 w2 : World} {es' : List (Int × Blk)} {bs' : List (List (Int × Int))} {p m q : Nat} (h2 : p < w.heap.size) (h3 : m < w.heap.size) (h4 : G p) (h5 : G m) (h6 : p ≠ m)
    (h7 : w.cell? ⟨p, 0, none⟩ = some (.int .i64 most)) (h8 : w.cell? ⟨p, 1, none⟩ = some (.map (some m))) (h9 : w.cell? ⟨p, 2, none⟩ = some (.pointer (some ⟨q, 0, none⟩)))
    (hsz : w.heap.size ≤ w1.heap.size) (hp : w1.heap[p]? = w.heap[p]?) (hm : MapIs kInt w1 m (esV es'))
    (hc : Chg (fun k => G k ∧ k ≠ p ∧ k ≠ m) w1 w2) (hs : ShelfIs w2 (fun k => G k ∧ k ≠ p ∧ k ≠ m) (.pointer (some ⟨q, 0, none⟩)) bs') : PoolIs w2 G (.pointer (some ⟨p, 0, none⟩)) most es' bs' := by
  have e : w2.heap[p]? = w.heap[p]? := (hc.block p (by omega) fun h => h.2.1 rfl).trans hp
  have := hc.size
  exact ⟨p, m, q, rfl, by omega, by omega, h4, h5, h6, (World.cell?_of_block (a := ⟨p, 0, none⟩) e).trans h7, (World.cell?_of_block (a := ⟨p, 1, none⟩) e).trans h8, (World.cell?_of_block (a := ⟨p, 2, none⟩) e).trans h9,
    hm.kept (hc.block m (by omega) fun h => h.2.2 rfl), hs⟩

set_option maxHeartbeats 2000000 in
set_option maxRecDepth 100000 in
theorem add_any (id : Int) (t : ByteArray) (r : Int) (h : PoolIs w G s most es bs) (hG : ∀ k, w.heap.size ≤ k → G k) (hl : lenB bs < 1000000) (hb : t.size ≤ 1000000) (hn : ¬ hasB bs (ofI t) id) :
    Calls Tryd.prog 32 #[s, .int .i64 id, .agg #[.string t, .int .i64 r]] w fun e w' => e = .returned (.tuple #[]) ∧ PoolIs w' G s most (putE es id (t, r)) (putB bs (ofI t) id) ∧ Chg G w w' := by
  obtain ⟨p, m, q, rfl, h2, h3, h4, h5, h6, h7, h8, h9, h10, h11⟩ := h
  obtain ⟨x, hx⟩ : ∃ x, x = ofI t := ⟨_, rfl⟩
  have hxb := ofI_bd t
  rw [← hx] at hxb hn ⊢
  have hx0 := hxb.1
  have hx1 := hxb.2
  have hof : ∀ w1 : World, Calls Tryd.prog 38 #[.string t] w1 fun e w' => e = .returned (.int .u32 x) ∧ w' = w1 := fun w1 => by rw [hx]; exact of_any t w1 hb
  obtain ⟨W0, hW0⟩ : ∃ W0, W0 = w.alloc (.cells #[.string t, .int .i64 r] 70) := ⟨_, rfl⟩
  have B0 : Below w.heap.size w W0 := by rw [hW0]; exact (Below.refl _ _).alloc (Nat.le_refl _) _
  have c0 : W0.cell? ⟨w.heap.size, 0, none⟩ = some (.string t) := by rw [hW0]; exact World.cell?_alloc_at _ _ _ _ rfl
  have c1 : W0.cell? ⟨w.heap.size, 1, none⟩ = some (.int .i64 r) := by rw [hW0]; exact World.cell?_alloc_at _ _ _ _ rfl
  have s0 : W0.heap.size = w.heap.size + 1 := by rw [hW0]; simp
  have d1 := ((bcell B0).1 p 1 h2).trans h8
  have d2 := ((bcell B0).1 p 2 h2).trans h9
  have HM := hide (h10.below B0)
  have HS := hide (h11.below B0)
  have Hof := hide hof
  have Hn := hide hn
  have H7 := hide h7
  have H8 := hide h8
  have H9 := hide h9
  have Hs0 := hide s0
  clear hx hof hn hxb h10 h11 h7 h8 h9 s0
  go_enter Tryd.func32, Tryd.ntmps32
  go_wp2_with fail
  rw [← hW0]
  clear hW0
  go_still_tail 6, (by kernel_rfl)
  change wpList _ _ _ _ _ W0.drew
  go_wp2_with (at_mapUpdate; refine wpList_update_is rfl _ _ _ _ rfl kInt (esV es) 3 70 Tryd.underlying62 Tryd.underlying3 m rfl ((unhide HM).drewN 1) id rfl (blkV (t, r)) rfl ?_; intro w1 HM1 HG1)
  have hpm : some p ≠ some m := fun e => h6 (by injection e)
  have sz0 := unhide Hs0
  have e1 : w1.heap[p]? = W0.heap[p]? := HG1.block p (by show p < W0.heap.size; omega) hpm
  have e2 : w1.heap[w.heap.size]? = W0.heap[w.heap.size]? := HG1.block _ (by show _ < W0.heap.size; omega) fun e => by injection e with e; omega
  have g2 : w1.cell? ⟨p, 2, none⟩ = some (.pointer (some ⟨q, 0, none⟩)) := (World.cell?_of_block (a := ⟨p, 2, none⟩) e1).trans d2
  have g0 : w1.cell? ⟨w.heap.size, 0, none⟩ = some (.string t) := (World.cell?_of_block (a := ⟨w.heap.size, 0, none⟩) e2).trans c0
  have sz1 : W0.heap.size ≤ w1.heap.size := HG1.size
  have HGx : W0.grownBy w1 (some m) := ⟨HG1.os, HG1.tape, HG1.output, HG1.size, HG1.block⟩
  have hC1 : Chg (fun k => k = m) W0 w1 := Chg.of_grown HGx sz1 fun k hk => by injection hk with hk; exact hk.symm
  have HC1 := hide hC1
  have HS1 := hide ((unhide HS).chg hC1 fun k hk e => hk.2.2 e)
  rw [put_esV] at HM1
  have HE1 := hide (e1.trans (B0.block p h2))
  have HM2 := hide HM1
  have hF : ∀ k, w1.heap.size ≤ k → G k ∧ k ≠ p ∧ k ≠ m := fun k hk => ⟨hG k (by omega), by omega, by omega⟩
  have HF := hide hF
  clear e1 e2 hC1 HG1 HGx HM1 hF d1 d2 c0 c1 HS HM hpm
  go_wp2_with fail
  refine wp_region_still_tail 8 (by kernel_rfl) (by kernel_rfl) ?_
  simp only [List.take_succ_cons, List.take_zero, List.drop_succ_cons, List.drop_zero]
  repeat still_step
  still_call (unhide Hof _)
  repeat still_step
  refine wpStill_nil ?_
  change wpList _ _ _ _ _ w1.drew
  go_wp2_with (go_at_call 50; refine (put_yesG x id (ShelfIs.drewN (unhide HS1) 1) (unhide HF) hx0 hx1 hl (unhide Hn)).mono ?_; rintro e w2 ⟨he, hS2, hC2⟩; subst he)
  go_end0
  refine ⟨rfl, PoolIs.turned h2 h3 h4 h5 h6 (unhide H7) (unhide H8) (unhide H9) (show w.heap.size ≤ w1.heap.size by omega) (unhide HE1) (unhide HM2) hC2.of_drewN hS2, ?_⟩
  exact Chg.below_trans B0 (((unhide HC1).mono fun k _ hk => hk ▸ h5).trans (hC2.of_drewN.mono fun k _ hk => hk.1))
end
end Go.Proofs.YtdpbjigdihajjaaDoor
