/- The first call of chapter 21. -/
import Derived.Test.YtdpbjigdihajjaaDoorScrH
namespace Go.Proofs.YtdpbjigdihajjaaDoor
open Go.RowKit

def aliveE : List (List Ext) := [[⟨0, 1, 1⟩]]
def aliveL : List Shv := [⟨1, 2, ⟨#[97, 98, 99, 100, 101, 102, 103, 104]⟩⟩]
theorem aliveE_tally : tally (idsP aliveE) = [(1, 1)] := by decide
theorem alive_told {r : List (Int × Int)} (h : Told (tally (idsP aliveE)) aliveL r) : r = [(3, 1)] := by
  obtain ⟨ks, h1, h2, h3⟩ := h
  rw [aliveE_tally] at h1 h3
  have hk : ks = [] := by
    cases ks with
    | nil => rfl
    | cons k ks =>
      have := (h3 k).1 List.mem_cons_self
      simp [aliveL] at this
  subst hk
  have e : bads (atN [(1, 1)]) aliveL aliveL.length = [(3, 1)] := by rfl
  rw [e] at h1
  simpa [lackL] using h1
set_option maxHeartbeats 2000000 in
set_option maxRecDepth 100000 in
theorem alive21 (w : World) : Calls Tryd.prog 20 #[] w fun e w' => e = .returned (.bool true) ∧ Below w.heap.size w w' := by
  obtain ⟨W1, hW1⟩ : ∃ W, W = (w.alloc (.cells #[.int .i64 0, .int .i64 1, .int .i64 1] 81)).alloc (.cells #[.int .i64 1, .int .i64 1, .int .i64 0, .slice (some ⟨w.heap.size, 0, none⟩) 1 1] 79) := ⟨_, rfl⟩
  obtain ⟨W2, hW2⟩ : ∃ W, W = W1.alloc (.cells #[.int .i64 1, .int .i64 2, .string ⟨#[97, 98, 99, 100, 101, 102, 103, 104]⟩] 51) := ⟨_, rfl⟩
  have B1 : Below w.heap.size w W1 := by rw [hW1]; exact ((Below.refl _ _).alloc (Nat.le_refl _) _).alloc (by simp) _
  have s1 : W1.heap.size = w.heap.size + 1 + 1 := by rw [hW1]; simp
  have B2 : Below W1.heap.size W1 W2 := by rw [hW2]; exact (Below.refl _ _).alloc (Nat.le_refl _) _
  have s2 : W2.heap.size = w.heap.size + 1 + 1 + 1 := by rw [hW2]; simp [s1]
  have e1 : ∀ j u, #[Value.int .i64 0, .int .i64 1, .int .i64 1][j]? = some u → W2.cell? ⟨w.heap.size, j, none⟩ = some u := fun j u hu => by
    refine ((bcell B2).1 _ j (by omega)).trans ?_
    rw [hW1]
    have hB : Below (w.heap.size + 1) (w.alloc (.cells #[.int .i64 0, .int .i64 1, .int .i64 1] 81)) ((w.alloc (.cells #[.int .i64 0, .int .i64 1, .int .i64 1] 81)).alloc (.cells #[.int .i64 1, .int .i64 1, .int .i64 0, .slice (some ⟨w.heap.size, 0, none⟩) 1 1] 79)) := (Below.refl _ _).alloc (by simp) _
    exact ((bcell hB).1 _ j (by omega)).trans ((World.cell?_alloc_at _ _ _ _ rfl).trans hu)
  have e2 : ∀ j u, #[Value.int .i64 1, .int .i64 1, .int .i64 0, .slice (some ⟨w.heap.size, 0, none⟩) 1 1][j]? = some u → W2.cell? ⟨w.heap.size + 1, j, none⟩ = some u := fun j u hu => by
    refine ((bcell B2).1 _ j (by omega)).trans ?_
    rw [hW1]
    exact (World.cell?_alloc_at _ _ _ _ (by simp)).trans hu
  have e3 : ∀ j u, #[Value.int .i64 1, .int .i64 2, .string ⟨#[97, 98, 99, 100, 101, 102, 103, 104]⟩][j]? = some u → W2.cell? ⟨w.heap.size + 1 + 1, j, none⟩ = some u := fun j u hu => by
    rw [hW2]
    exact (World.cell?_alloc_at _ _ _ _ s1.symm).trans hu
  have hP : PtsIn W2 (some ⟨w.heap.size + 1, 0, none⟩) 1 1 [⟨1, 1, 0, some ⟨w.heap.size, 0, none⟩, 1, 1⟩] aliveE := by
    refine ⟨⟨rfl, Nat.le_refl _, by decide, fun _ => ⟨w.heap.size + 1, 0, rfl, by omega, fun i hi j hj => ?_⟩⟩, rfl, by omega, fun i h1 h2 => ?_, fun es he => ?_⟩
    · have hi0 : i = 0 := by simpa using hi
      subst hi0
      have hj4 : j < 4 := hj
      rcases (show j = 0 ∨ j = 1 ∨ j = 2 ∨ j = 3 by omega) with rfl | rfl | rfl | rfl
      · exact e2 0 _ rfl
      · exact e2 1 _ rfl
      · exact e2 2 _ rfl
      · exact e2 3 _ rfl
    · have hi0 : i = 0 := by simpa using h1
      subst hi0
      refine ⟨rfl, Nat.le_refl _, show (1 : Nat) ≤ 9223372036854775807 by decide, fun _ => ⟨w.heap.size, 0, rfl, by omega, fun i hi j hj => ?_⟩⟩
      have hi0 : i = 0 := by simpa [aliveE] using hi
      subst hi0
      have hj3 : j < 3 := hj
      rcases (show j = 0 ∨ j = 1 ∨ j = 2 by omega) with rfl | rfl | rfl
      · exact e1 0 _ rfl
      · exact e1 1 _ rfl
      · exact e1 2 _ rfl
    · simp only [aliveE, List.mem_singleton] at he
      subst he
      refine ⟨by decide, fun x hx => ?_⟩
      simp only [List.mem_singleton] at hx
      subst hx
      decide
  have hS : Sl eSh W2 (some ⟨w.heap.size + 1 + 1, 0, none⟩) 1 1 aliveL := by
    refine ⟨rfl, Nat.le_refl _, by decide, fun _ => ⟨w.heap.size + 1 + 1, 0, rfl, by omega, fun i hi j hj => ?_⟩⟩
    have hi0 : i = 0 := by simpa [aliveL] using hi
    subst hi0
    have hj3 : j < 3 := hj
    rcases (show j = 0 ∨ j = 1 ∨ j = 2 by omega) with rfl | rfl | rfl
    · exact e3 0 _ rfl
    · exact e3 1 _ rfl
    · exact e3 2 _ rfl
  have hlook := look_any (some ⟨w.heap.size + 1 + 1, 0, none⟩) 1 1 aliveL (some ⟨w.heap.size + 1, 0, none⟩) 1 1 _ aliveE W2 hS (by omega) (fun b hb => by simp only [aliveL, List.mem_singleton] at hb; subst hb; decide) (by decide) hP
  have Hlook := hide hlook
  have HP := hide hP
  have HW1 := hide hW1
  have HW2 := hide hW2
  have Hs1 := hide s1
  have HB := hide (B1.trans (B2.mono (by omega)))
  have s2' : w.heap.size ≤ W2.heap.size := by omega
  clear hlook hP hS e1 e2 e3 hW1 hW2 B1 B2 s1 s2
  go_enter Tryd.func20, Tryd.ntmps20
  go_upto_region 3 with (go_at_call 23; rw [← unhide HW1, ← unhide HW2]; refine (unhide Hlook).mono ?_; rintro e w3 ⟨A3, c3, r, he, hs3, ht, hB3⟩; have hr := alive_told ht; subst hr; subst he; have HS3 := hide hs3; have HB3 := hide hB3; clear hs3 ht hB3)
  obtain ⟨b5, o5, eA5, lb5, hr5⟩ := (unhide HS3).2.2.2 (by decide)
  subst eA5
  have y0 : w3.cell? ⟨b5, o5, none⟩ = some (.int .i64 3) := by simpa [eF] using hr5 0 (by decide) 0 (by decide)
  have y1 : w3.cell? ⟨b5, o5 + 1, none⟩ = some (.int .i64 1) := by simpa [eF] using hr5 0 (by decide) 1 (by decide)
  have b1 := (unhide HS3).2.1
  have b2 := (unhide HS3).2.2.1
  have hwants := wants_any _ 1 1 _ aliveE w3 ((unhide HP).below (unhide HB3))
  have Hwants := hide hwants
  have s3 := (unhide HB3).size
  clear hr5 hwants
  go_wp2_with (go_at_call 22; refine (unhide Hwants).mono ?_; rintro e w4 ⟨A4, c4, ws, he, hO4, hp4, _, _, hB4⟩; have hlen : ws.length = 1 := (by have h1 := hp4.length_eq; rw [aliveE_tally] at h1; simpa using h1); rw [hlen] at he; subst he; have HB4 := hide hB4; clear hO4 hp4 hB4 hlen)
  go_ret
  exact ⟨rfl, ((unhide HB).trans ((unhide HB3).mono s2')).trans ((unhide HB4).mono (by omega))⟩
end Go.Proofs.YtdpbjigdihajjaaDoor
