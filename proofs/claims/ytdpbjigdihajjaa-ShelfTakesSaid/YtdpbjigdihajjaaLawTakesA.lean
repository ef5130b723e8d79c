/- Walk of emulsionlaw8.alive. -/
import Derived.Test.YtdpbjigdihajjaaShelfJ
namespace Go.Proofs.Ytdpbjigdihajjaa
open Go.RowKit

theorem sort_two : findL [[(9, 2), (9, 1)], [], []] 9 = [1, 2] := by
  have h : findL [[(9, 2), (9, 1)], [], []] 9 = ([2, 1] : List Int).mergeSort fun a b => decide (a ≤ b) := rfl
  rw [h, sort_perm (show ([2, 1] : List Int).Perm [1, 2] from .swap _ _ _)]
  exact List.mergeSort_of_pairwise (by simp)
theorem sort_none : findL [[(9, 2), (9, 1)], [], []] 1 = [] := by
  have h : findL [[(9, 2), (9, 1)], [], []] 1 = ([] : List Int).mergeSort fun a b => decide (a ≤ b) := rfl
  rw [h, List.mergeSort_nil]

set_option maxHeartbeats 1000000 in
set_option maxRecDepth 100000 in
theorem alive8 (w : World) :
    Calls Try.prog 17 #[] w fun e w' => e = .returned (.bool true) ∧ Below w.heap.size w w' := by
  go_enter Try.func17, Try.ntmps17
  go_wp2_with fail
  refine (newB (B := w.heap.size) 3 w (Nat.le_refl _)).mono ?_
  rintro e w1 ⟨p, rfl, hS1, HB1⟩
  have hS : ShB w1 w.heap.size (.pointer (some ⟨p, 0, none⟩)) [[], [], []] := hS1
  have s1 := HB1.size
  clear hS1
  go_wp2_with fail
  refine (put_yes 9 2 hS s1 (by omega) (by omega) (by decide) (by decide)).mono ?_
  rintro e w2 ⟨rfl, hS2, HB2⟩
  have s2 := HB2.size
  have B2 := HB1.trans HB2
  clear hS HB1 HB2
  go_wp2_with fail
  refine (put_yes 9 1 hS2 (by omega) (by omega) (by omega) (by decide) (by decide)).mono ?_
  rintro e w3 ⟨rfl, hS3, HB3⟩
  have s3 := HB3.size
  have B3 := B2.trans HB3
  clear hS2 B2 HB3
  go_wp2_with fail
  refine (put_no 9 1 hS3 (by omega) (by omega) (by decide) (by decide)).mono ?_
  rintro e w4 ⟨rfl, hS4, HB4⟩
  have s4 := HB4.size
  have B4 := B3.trans (HB4.mono (by omega))
  clear hS3 B3 HB4
  go_wp2_with fail
  refine (findB 9 hS4 (by omega) (by omega) (by decide) [1, 2] sort_two).mono ?_
  rintro e w5 ⟨A, c, rfl, ho, hS5, HB5⟩
  have s5 := HB5.size
  have B5 := B4.trans (HB5.mono (by omega))
  clear hS4 B4 HB5
  obtain ⟨b, hA⟩ : ∃ b, A = some ⟨b, 0, none⟩ := by
    rcases ho.shape with ⟨h1, h2⟩ | ⟨g, cap, h1, _⟩
    · cases h2
    · injection h1 with h1 _ _
      exact ⟨g, h1⟩
  subst hA
  have x0 : w5.cell? ⟨b, 0, none⟩ = some (.int .i64 1) := ho.cell (i := 0) (j := 0) (by decide) (by decide)
  have x1 : w5.cell? ⟨b, 1, none⟩ = some (.int .i64 2) := ho.cell (i := 1) (j := 0) (by decide) (by decide)
  clear ho
  go_wp2_with fail
  refine (findB 1 hS5 (by omega) (by omega) (by decide) [] sort_none).mono ?_
  rintro e w6 ⟨A6, c6, rfl, _, hS6, HB6⟩
  have s6 := HB6.size
  have B6 := B5.trans (HB6.mono (by omega))
  clear hS5 B5 HB6
  go_wp2_with fail
  refine (lenB_any hS6 (by decide) 2 (by decide)).mono ?_
  rintro e w7 ⟨rfl, hS7, HB7⟩
  have B7 := B6.trans (HB7.mono (by omega))
  clear hS6 B6 HB7 hS7
  go_wp2
  go_ret
  exact ⟨rfl, B7⟩
end Go.Proofs.Ytdpbjigdihajjaa
