/- Joined texts: LawFullA. -/
import Derived.Test.YtnpgjdhigcjihaaGreatDoorPP16
import Derived.Laws.BytesArg
/- Walk of emulsionlaw9.alive. -/
namespace Go.Proofs.YtnpgjdhigcjihaaGreatDoor
open Go.RowKit

/-- Eight zeros. -/
def sZero : ByteArray := ⟨#[0, 0, 0, 0, 0, 0, 0, 0]⟩
theorem make8 (w : World) : (Instr.makeSlice 110 (.int .i64 8) (.int .i64 8)).run Tryz.prog w = .ok (.slice (some ⟨w.heap.size, 0, none⟩) 8 8) (w.alloc (.cells #[.int .u8 0, .int .u8 0, .int .u8 0, .int .u8 0, .int .u8 0, .int .u8 0, .int .u8 0, .int .u8 0] 5)) := by kernel_rfl
theorem conv8 (W : World) : (convert 110 9 (.slice (some ⟨W.heap.size, 0, none⟩) 8 8)).run Tryz.prog (W.alloc (.cells #[.int .u8 0, .int .u8 0, .int .u8 0, .int .u8 0, .int .u8 0, .int .u8 0, .int .u8 0, .int .u8 0] 5)) = .ok (.string sZero) (W.alloc (.cells #[.int .u8 0, .int .u8 0, .int .u8 0, .int .u8 0, .int .u8 0, .int .u8 0, .int .u8 0, .int .u8 0] 5)) :=
  run_convert_bytes_arg _ _ _ Tryz.underlying110 Tryz.underlying5 _ 0 8 8 (List.replicate 8 0) rfl (fun i hi => by
    rw [World.cell?_alloc_at _ _ _ _ rfl]
    rcases (show i = 0 ∨ i = 1 ∨ i = 2 ∨ i = 3 ∨ i = 4 ∨ i = 5 ∨ i = 6 ∨ i = 7 by omega) with rfl | rfl | rfl | rfl | rfl | rfl | rfl | rfl <;> rfl) _ Tryz.underlying9
set_option maxRecDepth 100000 in
theorem zeros8 (w : World) :
    Calls Tryz.prog 38 #[.int .i64 8] w fun e w' => e = .returned (.string sZero) ∧ Below w.heap.size w w' := by
  have hm := make8
  have hc := conv8
  go_enter Tryz.func38, Tryz.ntmps38
  go_wp2
  go_ret
  exact ⟨rfl, (Below.refl _ _).alloc (Nat.le_refl _) _⟩
/-- abcdefgh -/
def sAbc : ByteArray := ⟨#[97, 98, 99, 100, 101, 102, 103, 104]⟩
set_option maxHeartbeats 2000000 in
set_option maxRecDepth 100000 in
theorem alive9 (w : World) :
    Calls Tryz.prog 4 #[] w fun e w' => e = .returned (.bool true) ∧ Below w.heap.size w w' := by
  have hG : ∀ W : World, w.heap.size ≤ W.heap.size → ∀ k, W.heap.size ≤ k → w.heap.size ≤ k := fun W h k hk => Nat.le_trans h hk
  have HG := hide hG
  clear hG
  go_enter Tryz.func4, Tryz.ntmps4
  go_wp2_with fail
  refine (pl_new (G := fun k => w.heap.size ≤ k) 3 w (unhide HG w (Nat.le_refl _))).mono ?_
  rintro e w1 ⟨p, rfl, hP, HB1⟩
  have hP1 : Pl w1 (fun k => w.heap.size ≤ k) (.pointer (some ⟨p, 0, none⟩)) 3 [] := hP
  have s1 := HB1.size
  clear hP
  go_wp2_with fail
  refine (pl_put_new sAbc 1 hP1 (unhide HG w1 s1) (by decide) (by decide) (fun id r h => by cases h) (by omega) (by omega) (by decide) ⟨by omega, rfl, fun j h1 h2 => by omega⟩ (by omega)).mono ?_
  rintro e w2 ⟨rfl, hP2, HC2⟩
  have s2 := HC2.size
  have B2 := HB1.trans (HC2.to_below s1 fun k hk => hk)
  clear hP1 HB1 HC2
  go_wp2_with fail
  refine (pl_put_had sAbc 1 1 hP2 (unhide HG w2 (by omega)) (by decide) (by rw [lkE_put_same]) (by omega)).mono ?_
  rintro e w3 ⟨rfl, hP3, HC3⟩
  have s3 := HC3.size
  have B3 := B2.trans (HC3.to_below (by omega) fun k hk => hk)
  clear hP2 B2 HC3
  go_wp2_with fail
  refine (pl_refs 1 hP3 sAbc 2 (by rw [lkE_put_same]; rfl)).mono ?_
  rintro e w4 ⟨he, hw⟩
  subst he hw
  go_wp2_with fail
  refine (pl_drop_down 1 sAbc 2 hP3 (unhide HG w4 (by omega)) (by rw [lkE_put_same]; rfl) (by omega) (by omega)).mono ?_
  rintro e w5 ⟨rfl, hP5, HC5⟩
  have s5 := HC5.size
  have B5 := B3.trans (HC5.to_below (by omega) fun k hk => hk)
  clear hP3 B3 HC5
  go_wp2_with fail
  refine (pl_drop_last 1 sAbc hP5 (unhide HG w5 (by omega)) (by rw [lkE_put_same]; rfl)).mono ?_
  rintro e w6 ⟨rfl, hP6, HC6⟩
  have s6 := HC6.size
  have B6 := B5.trans (HC6.to_below (by omega) fun k hk => hk)
  clear hP5 B5 HC6
  go_wp2_with fail
  refine (pl_len hP6 0 (by decide)).mono ?_
  rintro e w7 ⟨he, hw⟩
  subst he hw
  go_wp2_with fail
  refine (pl_drop_none 1 hP6 (by decide) (by decide)).mono ?_
  rintro e w8 ⟨he, hw⟩
  subst he hw
  clear hP6
  go_wp2
  go_ret
  exact ⟨rfl, B6⟩
end Go.Proofs.YtnpgjdhigcjihaaGreatDoor
