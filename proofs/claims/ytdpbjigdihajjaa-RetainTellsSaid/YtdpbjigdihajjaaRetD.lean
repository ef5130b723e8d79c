/- Walks of package retain: Of; the first call of the laws of chapter 19 (alive). -/
import Derived.Test.YtdpbjigdihajjaaRetC
import Derived.Deep.AppendLies
namespace Go.Proofs.Ytdpbjigdihajjaa
open Go.RowKit Retain

theorem of_yes (n : Int) (h0 : 0 ≤ n) (h1 : n ≤ 999) (w : World) :
    Calls Try.prog 11 #[.int .i64 n] w fun e w' => e = .returned (.tuple #[.agg #[.int .i64 (n % 10), .int .i64 (n / 10 % 10), .int .i64 (n / 10 / 10)], .int .i64 0]) ∧ Below w.heap.size w w' := by
  go_enter Try.func11, Try.ntmps11
  go_wp2
  refine bodyPost_ret (v := .tuple #[.agg #[.int .i64 (n % 10), .int .i64 (n / 10 % 10), .int .i64 (n / 10 / 10)], .int .i64 0]) (by simp [results, Try.results11, go_sem]) rfl ⟨rfl, ?_⟩
  exact (Below.refl _ _).alloc (Nat.le_refl _) _

def alivePts : List Pt := [⟨1, 0, 8, none, 0, 0⟩, ⟨2, 0, 9, none, 0, 0⟩, ⟨3, 0, 9, none, 0, 0⟩]
theorem partL_alive : partL 1 0 0 9 alivePts true 3 = [3] := by decide

theorem alive_sl (w : World) : Sl ePt (w.alloc (.cells #[.int .i64 1, .int .i64 0, .int .i64 8, .slice none 0 0, .int .i64 2, .int .i64 0, .int .i64 9, .slice none 0 0, .int .i64 3, .int .i64 0, .int .i64 9, .slice none 0 0] 28)) (some ⟨w.heap.size, 0, none⟩) 3 3 alivePts := by
  refine ⟨rfl, by omega, by omega, fun _ => ⟨w.heap.size, 0, rfl, by simp, fun i hi j hj => ?_⟩⟩
  rw [World.cell?_alloc_at _ _ _ _ rfl]
  have hi' : i < 3 := hi
  have hj' : j < 4 := hj
  rcases (show i = 0 ∨ i = 1 ∨ i = 2 by omega) with rfl | rfl | rfl <;> rcases (show j = 0 ∨ j = 1 ∨ j = 2 ∨ j = 3 by omega) with rfl | rfl | rfl | rfl <;> rfl

set_option maxHeartbeats 800000 in
theorem alive_any (w : World) : Calls Try.prog 5 #[] w fun e w' => e = .returned (.bool true) ∧ Below w.heap.size w w' := by
  have hs := alive_sl w
  have Hs := hide hs
  clear hs
  go_enter Try.func5, Try.ntmps5
  go_wp2_with fail
  refine (keep_any 1 0 0 9 _ 3 3 alivePts _ (unhide Hs) (by omega) (by simp [alivePts]) (by omega)).mono ?_
  rintro e w1 ⟨v, rfl, hown, HB⟩
  rw [partL_alive] at hown
  obtain ⟨g, cap, rfl, hg, hgl⟩ := hown.form (by decide)
  have c0 : w1.cell? ⟨g, 0, none⟩ = some (.int .i64 3) := hown.cellAt 0 (by decide)
  have B1 : Below w.heap.size w w1 := ((Below.refl _ _).alloc (Nat.le_refl _) _).trans (HB.mono (by simp))
  clear hown HB
  go_wp2_with fail
  refine (of_yes 123 (by omega) (by omega) _).mono ?_
  rintro e w2 ⟨rfl, B2⟩
  have c2 : w2.cell? ⟨g, 0, none⟩ = some (.int .i64 3) := ((bcell B2).1 _ _ hgl).trans c0
  have s1 := B1.size
  have s2 := B2.size
  have g2 : g < w2.heap.size := by omega
  clear c0
  go_wp2_with fail
  refine (week_any 9 _ (by omega)).mono ?_
  rintro e w3 ⟨rfl, rfl⟩
  go_wp2
  go_ret
  exact ⟨rfl, (B1.trans (B2.mono s1)).alloc (by omega) _⟩
end Go.Proofs.Ytdpbjigdihajjaa
