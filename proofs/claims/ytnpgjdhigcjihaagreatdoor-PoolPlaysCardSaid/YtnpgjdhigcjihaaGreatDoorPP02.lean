/- Joined texts: PoolA. -/
import Derived.Test.YtnpgjdhigcjihaaGreatDoorLaid
import Derived.Test.YtnpgjdhigcjihaaGreatDoorPP01
/- Walks that package pool needs: film.Zero, strings.Clone. -/
namespace Go.Proofs.YtnpgjdhigcjihaaGreatDoor
open Go.RowKit

/-- All bytes are 0. -/
def zeroB (s : ByteArray) : Bool := s.data.toList.all fun b => b == 0
theorem dropWhile_none (l : List UInt8) : l.dropWhile (fun b => b == 0) = [] ↔ ∀ b ∈ l, (b == 0) = true := by
  induction l with
  | nil => simp
  | cons a l ih =>
    rw [List.dropWhile_cons]
    by_cases h : (a == 0) = true
    · rw [if_pos h, ih]
      simp only [List.mem_cons, forall_eq_or_imp, h, true_and]
    · rw [if_neg h]
      exact ⟨(fun e => by cases e), fun e => absurd (e a List.mem_cons_self) h⟩
theorem trimB_zero (l : List UInt8) : Lib.trimB l 0 = [] ↔ (l.all fun b => b == 0) = true := by
  unfold Lib.trimB Lib.trimLeftB Lib.trimRightB
  rw [dropWhile_none, List.all_eq_true]
  constructor
  · intro h b hb
    rw [← List.mem_reverse, ← List.takeWhile_append_dropWhile (p := fun b : UInt8 => b == 0) (l := l.reverse), List.mem_append] at hb
    rcases hb with hb | hb
    · exact List.all_eq_true.1 (List.all_takeWhile (p := fun b : UInt8 => b == 0) (l := l.reverse)) b hb
    · exact h b (List.mem_reverse.2 hb)
  · intro h b hb
    exact h b (List.mem_reverse.1 ((List.dropWhile_sublist _).subset (List.mem_reverse.1 hb)))

theorem zero_yes (s : ByteArray) (w : World) (hs : s.size ≤ 1000000) (h : zeroB s = true) :
    Calls Tryz.prog 28 #[.string s] w fun e w' => e = .returned (.bool true) ∧ ∃ q, w' = w.drewN q := by
  have hz := (trimB_zero s.data.toList).2 h
  have htr : ∀ w1 : World, Calls Tryz.prog 69 #[.string s, .string ⟨#[0]⟩] w1 fun e w' => e = .returned (.string ⟨#[]⟩) ∧ (w' = w1 ∨ w' = w1.drew) := by
    intro w1
    have := Tryz.strings_Trim_one s 0 (by decide) w1 (by omega)
    rw [hz] at this
    exact this
  have Htr := hide htr
  clear htr hz h
  go_enter Tryz.func28, Tryz.ntmps28
  go_wp2_with fail
  refine (unhide Htr _).mono ?_
  rintro e w' ⟨rfl, hw | hw⟩
  all_goals
    subst hw
    go_wp2
    go_ret
  · exact ⟨rfl, 0, rfl⟩
  · exact ⟨rfl, 1, rfl⟩
theorem zero_no (s : ByteArray) (w : World) (hs : s.size ≤ 1000000) (h : zeroB s = false) :
    Calls Tryz.prog 28 #[.string s] w fun e w' => e = .returned (.bool false) ∧ ∃ q, w' = w.drewN q := by
  have hz : Lib.trimB s.data.toList 0 ≠ [] := fun e => by
    have := (trimB_zero s.data.toList).1 e
    rw [show (s.data.toList.all fun b => b == 0) = zeroB s from rfl, h] at this
    cases this
  obtain ⟨l, hl⟩ : ∃ l, l = Lib.trimB s.data.toList 0 := ⟨_, rfl⟩
  have htr : ∀ w1 : World, Calls Tryz.prog 69 #[.string s, .string ⟨#[0]⟩] w1 fun e w' => e = .returned (.string ⟨l.toArray⟩) ∧ (w' = w1 ∨ w' = w1.drew) := by
    intro w1
    have := Tryz.strings_Trim_one s 0 (by decide) w1 (by omega)
    rw [← hl] at this
    exact this
  rw [← hl] at hz
  have hz1 : (!l.isEmpty) = true := by cases l <;> simp_all
  have hz2 : l.isEmpty = false := by cases l <;> simp_all
  have Htr := hide htr
  clear htr h hl
  go_enter Tryz.func28, Tryz.ntmps28
  go_wp2_with fail
  refine (unhide Htr _).mono ?_
  rintro e w' ⟨rfl, hw | hw⟩
  all_goals
    subst hw
    go_wp2
    go_ret
  · exact ⟨rfl, 0, rfl⟩
  · exact ⟨rfl, 1, rfl⟩
theorem clone_any (s : ByteArray) (w : World) (hs : s.size ≤ 1000000) :
    Calls Tryz.prog 31 #[.string s] w fun e w' => e = .returned (.string s) ∧ Below w.heap.size w w' := by
  go_enter Tryz.func31, Tryz.ntmps31
  go_wp2_with fail
  refine (Tryz.stringslite_Clone s w (by omega)).mono ?_
  rintro e w' ⟨rfl, hb⟩
  go_wp2
  go_ret
  exact ⟨rfl, hb⟩
end Go.Proofs.YtnpgjdhigcjihaaGreatDoor
