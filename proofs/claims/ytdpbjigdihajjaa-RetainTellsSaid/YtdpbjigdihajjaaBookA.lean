/- The book's lists of numbers: copies, marks. -/
import Derived.Test.YtdpbjigdihajjaaAppend
import Derived.Test.YtdpbjigdihajjaaSort
import Derived.Test.YtdpbjigdihajjaaInts
namespace Go.Proofs.Ytdpbjigdihajjaa
open Go.RowKit

theorem eI_one (L : List Int) : ∀ u ∈ eI.flat L, u.oneCell' = true := by
  intro u hu
  rw [flat_ints] at hu
  obtain ⟨x, _, rfl⟩ := List.mem_map.1 hu
  rfl
set_option maxHeartbeats 1000000 in
theorem copyInts_any (A : Option Addr) (n c : Nat) (L : List Int) (w : World) (hs : Sl eI w A n c L) (hn : n ≤ 1000000) :
    Calls Try.prog 25 #[.slice A n c] w fun e w' => ∃ v, e = .returned v ∧ Own eI 3 w' w.heap.size v L ∧ Below w.heap.size w w' := by
  obtain ⟨i0, hi, hz0, hz1, hz2⟩ := info_parts Try.infoIn
  go_enter Try.func25, Try.ntmps25
  go_wp2_with (at_builtin; refine wpList_append_sl eI rfl _ _ _ rfl w.heap.size 3 i0 (.int .i64 0) 8 Try.underlying40 hi hz0 hz1 hz2 rfl (by decide) _ [] rfl _ (Own.nil _ _ _ _) A n c L rfl hs (eI_one _) ?c3 ?c4 ?c5 ?_)
  case c3 => unfold maxLen; simp; omega
  case c4 => simp; omega
  case c5 => exact Nat.le_refl _
  intro v w1 hown hgr hloc
  have B1 : Below w.heap.size w w1 := (Below.refl _ _).grown hgr (Nat.le_refl _) fun j hj => by simp [Value.ownBlock] at hj
  obtain ⟨A1, c1, hv, _, _⟩ := hown.sl
  subst hv
  have Hown := hide hown
  clear hgr hloc hown
  go_wp2
  go_ret
  exact ⟨_, rfl, unhide Hown, B1⟩

/-- The marks of a list's places from so-and-so on. -/
def marks (i f n : Nat) : List Int := (List.range n).map fun k : Nat => -1000000 * (i : Int) - ((f : Int) + (k : Int)) - 7
theorem marks_len (i f n : Nat) : (marks i f n).length = n := by simp [marks]
theorem marks_succ (i f n : Nat) : marks i f (n + 1) = marks i f n ++ [-1000000 * (i : Int) - ((f : Int) + (n : Int)) - 7] := by simp [marks, List.range_succ]
theorem marks_app (i f n m : Nat) : marks i f n ++ marks i (f + n) m = marks i f (n + m) := by
  unfold marks
  rw [List.range_add, List.map_append, List.map_map]
  congr 1
  apply List.map_congr_left
  intro k _
  simp only [Function.comp]
  omega
set_option maxHeartbeats 1000000 in
set_option maxRecDepth 100000 in
theorem markInts_any (i f n : Nat) (w : World) (hi' : i ≤ 1000000) (hf : f ≤ 1000000) (hn : n ≤ 1000000) :
    Calls Try.prog 70 #[.int .i64 i, .int .i64 f, .int .i64 n] w fun e w' => ∃ A c, e = .returned (.slice A n c) ∧ Own eI 3 w' w.heap.size (.slice A n c) (marks i f n) ∧ Below w.heap.size w w' := by
  obtain ⟨i0, hi, hz0, hz1, hz2⟩ := info_parts Try.infoIn
  go_enter Try.func70, Try.ntmps70
  go_wp2_with fail
  go_loopw [7, 8] (fun v j wr => ∃ k : Nat, k ≤ n ∧ j = .int .i64 ((f : Int) + (k : Int)) ∧ (∃ A c, v = .slice A k c ∧ Own eI 3 wr w.heap.size (.slice A k c) (marks i f k)) ∧ Below w.heap.size w wr) (fun _ j _ => f + n - (intOf j).toNat)
  case atStart => exact ⟨0, Nat.zero_le _, rfl, ⟨none, 0, rfl, Own.nil _ _ _ _⟩, Below.refl _ _⟩
  case round =>
    obtain ⟨k, hk, rfl, ⟨Av, cv, rfl, hown⟩, HB⟩ := hrel
    by_cases hlt : k < n
    · have hlt' : (f : Int) + (k : Int) < (f : Int) + n := by omega
      have Hsu := hide (marks_succ i f k)
      have Hl := hide (marks_len i f k)
      go_wp2_with (at_builtin; refine wpList_append_one eI rfl _ _ _ rfl w.heap.size 3 i0 (.int .i64 0) 8 Try.underlying40 hi hz0 hz1 hz2 rfl (by decide) _ (marks i f k) rfl _ hown (-1000000 * (i : Int) - ((f : Int) + (k : Int)) - 7) #[.int .i64 (-1000000 * (i : Int) - ((f : Int) + (k : Int)) - 7)] rfl (by simp [Act.eval]) (one_int _) ?c3 ?c4 ?c5 ?_)
      case c3 => rw [unhide Hl]; unfold maxLen; omega
      case c4 => rw [unhide Hl]; omega
      case c5 => exact HB.size
      intro v1 w1 hown1 hgr hloc
      have hb := HB.alloc HB.size (.cells #[.int .i64 (-1000000 * (i : Int) - ((f : Int) + (k : Int)) - 7)] 3)
      have B2 : Below w.heap.size w w1 := hb.grown hgr hb.size fun j hj => (hown.lt j hj).1
      obtain ⟨A1, c1, hv1, _, _⟩ := hown1.sl
      rw [List.length_append, unhide Hl, List.length_singleton] at hv1
      subst hv1
      have Hown1 := hide hown1
      clear hgr hloc hb hown HB hown1
      go_wp2
      go_roundw
      case rel => exact ⟨k + 1, by omega, by go_num, ⟨A1, c1, rfl, by rw [unhide Hsu]; exact unhide Hown1⟩, B2⟩
      case measure => simp [intOf]; omega
    · obtain rfl : k = n := by omega
      have hlt' : ¬ (f : Int) + (k : Int) < (f : Int) + k := by omega
      have Hown := hide hown
      clear hown
      go_wp2
      go_ret
      exact ⟨Av, cv, rfl, unhide Hown, HB⟩
end Go.Proofs.Ytdpbjigdihajjaa
