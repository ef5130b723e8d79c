/- The tidy map of an array: the plain law. -/
import Derived.Test.YtdpbjigdihajjaaDoorArrD
namespace Go.Proofs.YtdpbjigdihajjaaDoor
open Go.RowKit

/-- Does a block go on with the extent ahead of it? -/
def joinB (L : List Int) (k : Nat) : Bool := decide (0 < k) && ((L.getD k 0 == 0 && L.getD (k - 1) 0 == 0) || (decide (0 < L.getD k 0) && decide (0 < L.getD (k - 1) 0) && L.getD k 0 == L.getD (k - 1) 0 + 1))
def grow1 : List Ext → List Ext
  | [] => []
  | [x] => [⟨x.from_, x.n + 1, x.id⟩]
  | x :: y :: l => x :: grow1 (y :: l)
/-- The extents of the first blocks. -/
def extsL (L : List Int) : Nat → List Ext
  | 0 => []
  | k + 1 => if L.getD k 0 < 0 then extsL L k else if joinB L k = true then grow1 (extsL L k) else extsL L k ++ [⟨k, 1, L.getD k 0⟩]
theorem grow1_snoc (l : List Ext) (x : Ext) : grow1 (l ++ [x]) = l ++ [⟨x.from_, x.n + 1, x.id⟩] := by
  induction l with
  | nil => rfl
  | cons y l ih =>
    cases l with
    | nil => rfl
    | cons z l =>
      show y :: grow1 (z :: l ++ [x]) = _
      rw [ih]; rfl
/-- The last extent ends where it should. -/
structure Tidy (L : List Int) (k : Nat) (es : List Ext) : Prop where
  good : ∀ x ∈ es, 0 ≤ x.from_ ∧ 1 ≤ x.n ∧ x.from_ + x.n ≤ (k : Int) ∧ 0 ≤ x.id ∧ x.id + x.n ≤ 61 + (if x.id = 0 then 64 else 0)
  last : 0 < k → 0 ≤ L.getD (k - 1) 0 → ∃ l x, es = l ++ [x] ∧ x.from_ + x.n = (k : Int) ∧ (x.id = 0 ↔ L.getD (k - 1) 0 = 0) ∧ (0 < x.id → x.id + x.n - 1 = L.getD (k - 1) 0)
theorem tidy_ext (L : List Int) (hL : ∀ k, -1 ≤ L.getD k 0 ∧ L.getD k 0 ≤ 60) (k : Nat) (hk : k ≤ 64) : Tidy L k (extsL L k) := by
  induction k with
  | zero => exact ⟨fun x h => by simp [extsL] at h, fun h => by omega⟩
  | succ k ih =>
    have ih := ih (by omega)
    have hb := hL k
    unfold extsL
    by_cases h1 : L.getD k 0 < 0
    · rw [if_pos h1]
      refine ⟨fun x hx => ?_, fun _ h => ?_⟩
      · have := ih.good x hx; omega
      · have : 0 ≤ L.getD k 0 := h
        omega
    · rw [if_neg h1]
      by_cases h2 : joinB L k = true
      · rw [if_pos h2]
        unfold joinB at h2
        simp only [Bool.and_eq_true, Bool.or_eq_true, decide_eq_true_eq, beq_iff_eq] at h2
        obtain ⟨h3, h4⟩ := h2
        obtain ⟨l, x, he, h5, h6, h7⟩ := ih.last h3 (by omega)
        rw [he, grow1_snoc]
        have hg := ih.good x (by rw [he]; simp)
        refine ⟨fun y hy => ?_, fun _ _ => ⟨l, _, rfl, ?_, ?_, fun h => ?_⟩⟩
        · rcases List.mem_append.1 hy with hy | hy
          · have := ih.good y (by rw [he]; exact List.mem_append_left _ hy)
            omega
          · simp only [List.mem_singleton] at hy
            subst hy
            refine ⟨hg.1, by show 1 ≤ x.n + 1; omega, by show x.from_ + (x.n + 1) ≤ _; omega, hg.2.2.2.1, ?_⟩
            show x.id + (x.n + 1) ≤ 61 + (if x.id = 0 then 64 else 0)
            split
            · omega
            · rename_i hx
              have := h7 (by omega)
              have : ¬ L.getD (k - 1) 0 = 0 := fun e => hx (h6.2 e)
              omega
        · show x.from_ + (x.n + 1) = _; omega
        · show x.id = 0 ↔ L.getD k 0 = 0
          rw [h6]; omega
        · have h8 : 0 < x.id := h
          have := h7 h8
          show x.id + (x.n + 1) - 1 = L.getD k 0
          have : ¬ L.getD (k - 1) 0 = 0 := fun e => by have := h6.2 e; omega
          omega
      · rw [if_neg h2]
        refine ⟨fun y hy => ?_, fun _ _ => ⟨_, _, rfl, ?_, ?_, fun h => ?_⟩⟩
        · rcases List.mem_append.1 hy with hy | hy
          · have := ih.good y hy
            omega
          · simp only [List.mem_singleton] at hy
            subst hy
            refine ⟨by show (0 : Int) ≤ k; omega, by show (1 : Int) ≤ 1; omega, by show (k : Int) + 1 ≤ _; omega, by show 0 ≤ L.getD k 0; omega, ?_⟩
            show L.getD k 0 + 1 ≤ 61 + (if L.getD k 0 = 0 then 64 else 0)
            split <;> omega
        · show (k : Int) + 1 = _; omega
        · exact Iff.rfl
        · show L.getD k 0 + 1 - 1 = L.getD k 0; omega
end Go.Proofs.YtdpbjigdihajjaaDoor
