/- Joined texts: StillF. -/
import Derived.Test.YtjjfdkdneibjbaaGreatDoorJa08
import Derived.Test.YtjjfdkdneibjbaaGreatDoorJa11
/- Walk of package still: a write; what it touches is kept as it was. -/
namespace Go.Proofs.YtjjfdkdneibjbaaGreatDoor
open Go.RowKit

/-- What is kept behind k blocks from F on: of those that are neither kept nor gone the bytes. -/
def keepK (K : List (Int × Value)) (G : Int) (l : List UInt8) (F : Nat) : Nat → List (Int × Value)
  | 0 => K
  | k + 1 => let K' := keepK K G l F k
    if lk K' ((F + k : Nat) : Int) = none ∧ goneB G (F + k) = false then put K' ((F + k : Nat) : Int) (.string (cutS l (8 * (F + k)) 8)) else K'
theorem keepK_other (K : List (Int × Value)) (G : Int) (l : List UInt8) (F : Nat) (j : Int) : ∀ k, (∀ i, i < k → j ≠ ((F + i : Nat) : Int)) → lk (keepK K G l F k) j = lk K j
  | 0, _ => rfl
  | k + 1, h => by
    rw [keepK]
    have ih := keepK_other K G l F j k fun i hi => h i (by omega)
    split
    · rw [lk_put_other _ _ (h k (by omega))]; exact ih
    · exact ih
theorem keepK_at (K : List (Int × Value)) (G : Int) (l : List UInt8) (F k i : Nat) (hi : i < k) :
    lk (keepK K G l F k) ((F + i : Nat) : Int) = if lk K ((F + i : Nat) : Int) = none ∧ goneB G (F + i) = false then some (.string (cutS l (8 * (F + i)) 8)) else lk K ((F + i : Nat) : Int) := by
  induction k with
  | zero => omega
  | succ k ih =>
    by_cases e : i = k
    · subst e
      have h0 := keepK_other K G l F ((F + i : Nat) : Int) i fun j hj => by omega
      rw [keepK, h0]
      split
      · rw [lk_put_same]
      · exact h0
    · have ih := ih (by omega)
      rw [keepK]
      split
      · rw [lk_put_other _ _ (by omega)]; exact ih
      · exact ih
end Go.Proofs.YtjjfdkdneibjbaaGreatDoor
