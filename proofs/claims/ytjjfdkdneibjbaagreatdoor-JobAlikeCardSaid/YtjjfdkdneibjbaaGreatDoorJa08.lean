/- Joined texts: StillE. -/
import Derived.Test.YtjjfdkdneibjbaaGreatDoorJa07
import Derived.Laws.Bits64b
/- The bits of a still: the plain law. -/
namespace Go.Proofs.YtjjfdkdneibjbaaGreatDoor
open Go.RowKit

theorem goneB_nat (G k : Nat) (hG : G < 18446744073709551616) : goneB (G : Int) k = G.testBit k := by
  unfold goneB
  have e : ((G : Int) / 2 ^ k) = ((G / 2 ^ k : Nat) : Int) := by
    rw [Int.natCast_ediv]
    congr 1
  rw [e, show (1 : Int) = ((1 : Nat) : Int) from rfl, bits_and_u64_nat _ _ (Nat.lt_of_le_of_lt (Nat.div_le_self _ _) hG) (by decide), Nat.and_one_is_mod, Nat.testBit_eq_decide_div_mod_eq, Bool.eq_iff_iff]
  simp only [beq_iff_eq, decide_eq_true_eq]
  omega
theorem letG_nat (G k : Nat) (hG : G < 18446744073709551616) (hk : k < 64) : letG (G : Int) k = ((G ||| 2 ^ k : Nat) : Int) ∧ (G ||| 2 ^ k) < 18446744073709551616 := by
  have h2 : 2 ^ k < 2 ^ 64 := Nat.pow_lt_pow_right (by decide) hk
  have hw : IntKind.u64.wrap ((2 : Int) ^ k) = ((2 ^ k : Nat) : Int) := by
    have e : (2 : Int) ^ k = ((2 ^ k : Nat) : Int) := (Int.natCast_pow 2 k).symm
    rw [e]
    unfold IntKind.wrap
    have hb : (2 : Int) ^ IntKind.u64.bits = ((2 ^ 64 : Nat) : Int) := by decide
    have hs : IntKind.u64.signed = false := rfl
    simp only [hb, hs, Bool.false_and, Bool.false_eq_true, if_false]
    rw [← Int.natCast_emod, Nat.mod_eq_of_lt h2]
  refine ⟨?_, ?_⟩
  · unfold letG
    rw [hw, bits_or_u64_nat _ _ hG (by omega)]
  · exact Nat.or_lt_two_pow (n := 64) (by omega) h2
theorem goneB_let (G k j : Nat) (hG : G < 18446744073709551616) (hk : k < 64) : goneB (letG (G : Int) k) j = if j = k then true else goneB (G : Int) j := by
  obtain ⟨h1, h2⟩ := letG_nat G k hG hk
  rw [h1, goneB_nat _ _ h2, goneB_nat _ _ hG, Nat.testBit_or, Nat.testBit_two_pow]
  by_cases h : j = k
  · simp [h]
  · simp [h, show ¬ k = j from fun e => h e.symm]
theorem goneB_none (k : Nat) : goneB 0 k = false := by
  have := goneB_nat 0 k (by decide)
  rw [show ((0 : Nat) : Int) = 0 from rfl] at this
  rw [this, Nat.zero_testBit]
end Go.Proofs.YtjjfdkdneibjbaaGreatDoor
