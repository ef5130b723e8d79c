/- Walks of package pool: New, Hold, Drop. -/
import Derived.Test.YtdpbjigdihajjaaDoorPoolH
namespace Go.Proofs.YtdpbjigdihajjaaDoor
open Go.RowKit

section
variable {w : World} {G : Nat → Prop} {s : Value} {most : Int} {es : List (Int × Blk)} {bs : List (List (Int × Int))}
set_option maxHeartbeats 1000000 in
set_option maxRecDepth 100000 in
theorem pnew_any (most : Int) (w : World) (hG : ∀ k, w.heap.size ≤ k → G k) :
    Calls Tryd.prog 9 #[.int .i64 most] w fun e w' => ∃ p, e = .returned (.pointer (some ⟨p, 0, none⟩)) ∧ PoolIs w' G (.pointer (some ⟨p, 0, none⟩)) (min (max most 0) 60) [] (List.replicate 16 []) ∧ Below w.heap.size w w' := by
  have hmm := @run_makeMap Tryd.prog
  obtain ⟨W0, hW0⟩ : ∃ W0, W0 = w.alloc (.map #[] 0) := ⟨_, rfl⟩
  have B0 : Below w.heap.size w W0 := by rw [hW0]; exact (Below.refl _ _).alloc (Nat.le_refl _) _
  have HM0 : MapIs kInt W0 w.heap.size [] := by rw [hW0]; exact MapIs.made kInt w
  have s0 : W0.heap.size = w.heap.size + 1 := by rw [hW0]; simp
  have Hs0 := hide s0
  clear s0
  go_enter Tryd.func9, Tryd.ntmps9
  go_wp2_with fail
  rw [← hW0]
  clear hW0
  refine (new_any 16 W0).mono ?_
  rintro e w1 ⟨v, rfl, hS, HB⟩
  have hS1 : ShelfIs w1 (fun k => W0.heap.size ≤ k) v (List.replicate 16 []) := hS
  obtain ⟨q, rfl⟩ : ∃ q, v = .pointer (some ⟨q, 0, none⟩) := by
    obtain ⟨q, _, _, h, _⟩ := hS1
    exact ⟨q, h⟩
  have sz0 := unhide Hs0
  have sz1 := HB.size
  obtain ⟨W2, hW2⟩ : ∃ W2, W2 = w1.alloc (.cells #[.int .i64 (min (max most 0) 60), .map (some w.heap.size), .pointer (some ⟨q, 0, none⟩)] 66) := ⟨_, rfl⟩
  have B2 : Below w1.heap.size w1 W2 := by rw [hW2]; exact (Below.refl _ _).alloc (Nat.le_refl _) _
  have s2 : W2.heap.size = w1.heap.size + 1 := by rw [hW2]; simp
  have k0 : W2.cell? ⟨w1.heap.size, 0, none⟩ = some (.int .i64 (min (max most 0) 60)) := by rw [hW2]; exact World.cell?_alloc_at _ _ _ _ rfl
  have k1 : W2.cell? ⟨w1.heap.size, 1, none⟩ = some (.map (some w.heap.size)) := by rw [hW2]; exact World.cell?_alloc_at _ _ _ _ rfl
  have k2 : W2.cell? ⟨w1.heap.size, 2, none⟩ = some (.pointer (some ⟨q, 0, none⟩)) := by rw [hW2]; exact World.cell?_alloc_at _ _ _ _ rfl
  have hfin : PoolIs W2 G (.pointer (some ⟨w1.heap.size, 0, none⟩)) (min (max most 0) 60) [] (List.replicate 16 []) := by
    refine ⟨w1.heap.size, w.heap.size, q, rfl, by omega, by omega, hG _ (by omega), hG _ (Nat.le_refl _), by omega, k0, k1, k2, (HM0.below HB).below B2, ?_⟩
    exact ((hS1.gap (m' := W2.heap.size) B2 rfl).mono fun k hk => ⟨hG _ (by have := hk.1; omega), by have h1 := hk.1; have h2 := hk.2; omega, by have := hk.1; omega⟩)
  have Hfin := hide hfin
  have HB2 := (B0.trans (HB.mono (by omega))).trans (B2.mono (by omega))
  clear hfin k0 k1 k2 hS hS1 HM0
  go_wp2
  rw [← hW2]
  go_ret
  exact ⟨_, rfl, unhide Hfin, HB2⟩
theorem hold_of (id c : Int) (p : Nat) (P : World → Prop) (h : Calls Tryd.prog 34 #[.pointer (some ⟨p, 0, none⟩), .int .i64 id, .int .i64 (1)] w fun e w' => e = .returned (.int .i64 c) ∧ P w') :
    Calls Tryd.prog 30 #[.pointer (some ⟨p, 0, none⟩), .int .i64 id] w fun e w' => e = .returned (.int .i64 c) ∧ P w' := by
  have H := hide h
  clear h
  go_enter Tryd.func30, Tryd.ntmps30
  go_wp2_with fail
  refine (unhide H).mono ?_
  rintro e w' ⟨rfl, hp⟩
  have Hp := hide hp
  clear hp
  go_wp2
  go_ret
  exact ⟨rfl, unhide Hp⟩
theorem drop_of (id c : Int) (p : Nat) (P : World → Prop) (h : Calls Tryd.prog 34 #[.pointer (some ⟨p, 0, none⟩), .int .i64 id, .int .i64 (-1)] w fun e w' => e = .returned (.int .i64 c) ∧ P w') :
    Calls Tryd.prog 13 #[.pointer (some ⟨p, 0, none⟩), .int .i64 id] w fun e w' => e = .returned (.int .i64 c) ∧ P w' := by
  have H := hide h
  clear h
  go_enter Tryd.func13, Tryd.ntmps13
  go_wp2_with fail
  refine (unhide H).mono ?_
  rintro e w' ⟨rfl, hp⟩
  have Hp := hide hp
  clear hp
  go_wp2
  go_ret
  exact ⟨rfl, unhide Hp⟩
end
end Go.Proofs.YtdpbjigdihajjaaDoor
