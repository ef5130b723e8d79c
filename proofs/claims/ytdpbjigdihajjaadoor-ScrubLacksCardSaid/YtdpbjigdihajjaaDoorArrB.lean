/- An extent by itself; a map's blocks are set. -/
import Derived.Test.YtdpbjigdihajjaaDoorArrA
namespace Go.Proofs.YtdpbjigdihajjaaDoor
open Go.RowKit

/-- Is a stretch of blocks within the volume? -/
def wholeB (f n : Int) : Bool := decide (0 ≤ f ∧ f ≤ 64 ∧ 1 ≤ n ∧ n ≤ 64 ∧ f + n ≤ 64)
def aloneB (f n i : Int) : Bool := wholeB f n && decide (0 ≤ i ∧ (i = 0 ∨ (i ≤ 60 ∧ n ≤ 60 ∧ i + n ≤ 61)))
set_option maxHeartbeats 1000000 in
theorem whole_any (f n : Int) (w : World) : Calls Tryd.prog 118 #[.agg #[.int .i64 f, .int .i64 n]] w fun e w' => e = .returned (.bool (wholeB f n)) ∧ Below w.heap.size w w' := by
  have B1 : Below w.heap.size w (w.alloc (.cells #[.int .i64 f, .int .i64 n] 178)) := (Below.refl _ _).alloc (Nat.le_refl _) _
  by_cases hw : 0 ≤ f ∧ f ≤ 64 ∧ 1 ≤ n ∧ n ≤ 64
  · obtain ⟨h1, h2, h3, h4⟩ := hw
    go_enter Tryd.func118, Tryd.ntmps118
    go_wp2
    go_ret
    refine ⟨ret_bool ?_, B1⟩
    unfold wholeB
    rw [decide_eq_decide]
    omega
  · have hb : wholeB f n = false := by
      unfold wholeB
      rw [decide_eq_false_iff_not]
      omega
    rw [hb]
    clear hb
    rcases (show f < 0 ∨ (0 ≤ f ∧ 64 < f) ∨ (0 ≤ f ∧ f ≤ 64 ∧ n < 1) ∨ (0 ≤ f ∧ f ≤ 64 ∧ 1 ≤ n ∧ 64 < n) by omega) with h | ⟨h, h'⟩ | ⟨h, h', h''⟩ | ⟨h, h', h'', h'''⟩
    all_goals
      clear hw
      go_enter Tryd.func118, Tryd.ntmps118
      go_wp2
      go_ret
      first | exact ⟨rfl, B1⟩ | (refine ⟨ret_bool ?_, B1⟩; simp; omega)
set_option maxHeartbeats 2000000 in
theorem alone_any (f n i : Int) (w : World) : Calls Tryd.prog 88 #[.agg #[.int .i64 f, .int .i64 n, .int .i64 i]] w fun e w' => e = .returned (.bool (aloneB f n i)) ∧ Below w.heap.size w w' := by
  obtain ⟨w1, hw1⟩ : ∃ w1, w1 = w.alloc (.cells #[.int .i64 f, .int .i64 n, .int .i64 i] 81) := ⟨_, rfl⟩
  have B1 : Below w.heap.size w w1 := by rw [hw1]; exact (Below.refl _ _).alloc (Nat.le_refl _) _
  have c0 : w1.cell? ⟨w.heap.size, 0, none⟩ = some (.int .i64 f) := by rw [hw1]; exact World.cell?_alloc_at _ _ _ _ rfl
  have c1 : w1.cell? ⟨w.heap.size, 1, none⟩ = some (.int .i64 n) := by rw [hw1]; exact World.cell?_alloc_at _ _ _ _ rfl
  have c2 : w1.cell? ⟨w.heap.size, 2, none⟩ = some (.int .i64 i) := by rw [hw1]; exact World.cell?_alloc_at _ _ _ _ rfl
  have s1 : w.heap.size < w1.heap.size := by rw [hw1]; simp
  go_enter Tryd.func88, Tryd.ntmps88
  go_wp2_with fail
  rw [← hw1]
  clear hw1
  refine (whole_any f n w1).mono ?_
  rintro e w2 ⟨rfl, HB2⟩
  have d0 := ((bcell HB2).1 _ 0 s1).trans c0
  have d1 := ((bcell HB2).1 _ 1 s1).trans c1
  have d2 := ((bcell HB2).1 _ 2 s1).trans c2
  have B2 : Below w.heap.size w w2 := B1.trans (HB2.mono (by omega))
  clear HB2 c0 c1 c2
  by_cases hw : wholeB f n = true
  · have hn : 1 ≤ n ∧ n ≤ 64 := by
      unfold wholeB at hw
      rw [decide_eq_true_iff] at hw
      omega
    obtain ⟨n1, n2⟩ := hn
    rw [hw]
    have Hw := hide hw
    clear hw
    rcases (show i < 0 ∨ i = 0 ∨ (0 < i ∧ 60 < i) ∨ (0 < i ∧ i ≤ 60 ∧ 60 < n) ∨ (0 < i ∧ i ≤ 60 ∧ n ≤ 60) by omega) with h | h | ⟨h, h'⟩ | ⟨h, h', h''⟩ | ⟨h, h', h''⟩
    · have hr := hide (show aloneB f n i = false by unfold aloneB; rw [unhide Hw]; simp; omega)
      go_wp2
      go_ret
      exact ⟨ret_bool (unhide hr).symm, B2⟩
    · subst h
      have hr := hide (show aloneB f n 0 = true by unfold aloneB; rw [unhide Hw]; simp)
      go_wp2
      go_ret
      exact ⟨ret_bool (unhide hr).symm, B2⟩
    · have hr := hide (show aloneB f n i = false by unfold aloneB; rw [unhide Hw]; simp; omega)
      have h0 : (i == 0) = false := beq_eq_false_iff_ne.2 (by omega)
      go_wp2
      go_ret
      exact ⟨ret_bool (unhide hr).symm, B2⟩
    · have hr := hide (show aloneB f n i = false by unfold aloneB; rw [unhide Hw]; simp; omega)
      have h0 : (i == 0) = false := beq_eq_false_iff_ne.2 (by omega)
      go_wp2
      go_ret
      exact ⟨ret_bool (unhide hr).symm, B2⟩
    · have hr := hide (show aloneB f n i = decide (i + n ≤ 61) by unfold aloneB; rw [unhide Hw, Bool.true_and, decide_eq_decide]; omega)
      have h0 : (i == 0) = false := beq_eq_false_iff_ne.2 (by omega)
      go_wp2
      go_ret
      exact ⟨ret_bool (unhide hr).symm, B2⟩
  · have hw' : wholeB f n = false := by simpa using hw
    have hr := hide (show aloneB f n i = false by unfold aloneB; rw [hw']; rfl)
    rw [hw']
    clear hw hw'
    go_wp2
    go_ret
    exact ⟨ret_bool (unhide hr).symm, B2⟩
end Go.Proofs.YtdpbjigdihajjaaDoor
