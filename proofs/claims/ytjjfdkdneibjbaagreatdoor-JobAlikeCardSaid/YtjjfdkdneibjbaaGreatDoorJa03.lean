/- Joined texts: FilmC, FilmD, FilmF. -/
import Derived.Test.YtjjfdkdneibjbaaGreatDoorJa02
import Derived.Lib.LazyBuf
/- Walk of package film: bytes are written. -/
namespace Go.Proofs.YtjjfdkdneibjbaaGreatDoor
open Go.RowKit
variable {w : World} {p g c : Nat} {l : List UInt8}

theorem Tryz.sizeU8 (w : World) : (Go.sizeOf 5).run Tryz.prog w = .ok 1 w := by
  obtain ⟨i0, hi, hz0, hz1, hz2⟩ := info_parts Tryz.infoU8
  simp [Go.sizeOf, typeInfo, hi, hz1]
def cellsU (s : ByteArray) : List Value := s.data.toList.map fun x => Value.int .u8 (x.toNat : Int)
theorem FilmIs.copied (h : FilmIs w p g c l) (a : Nat) (s : ByteArray) (ha : a + s.size ≤ l.length) (cap : Nat) : (Builtin.copy_ #[108, 9] 3 #[.slice (some ⟨g, a, none⟩) (l.length - a) cap, .string s]).run Tryz.prog w = .ok (goInt s.size) (w.setCells g a (cellsU s)) :=
  run_copy_string w _ _ _ _ g a _ _ s Tryz.underlying108 Tryz.sizeU8 (by omega) (fun j hj => by rw [h.cell (a + j) (by omega)]; rfl) (fun j hj => h.free (a + j) (by omega))
set_option maxHeartbeats 2000000 in
set_option maxRecDepth 20000 in
theorem film_write (a : Nat) (s : ByteArray) (h : FilmIs w p g c l) (ha : a + s.size ≤ l.length) (hs : 0 < s.size) : Calls Tryz.prog 10 #[.pointer (some ⟨p, 0, none⟩), .int .i64 (a : Int), .string s] w fun e w' => e = .returned (.int .i64 0) ∧ w' = w.setCells g a (cellsU s) := by
  have x0 := h.sl
  have x1 := h.le
  have x2 := h.cap
  have x3 := h.few
  have hc := h.copied a s ha (c - a)
  have Hm := hide (may_yes a s.size h ha)
  obtain ⟨N, hN⟩ : ∃ N, N = l.length := ⟨_, rfl⟩
  rw [← hN] at x0 x1 x3 ha hc
  obtain ⟨W, hW⟩ : ∃ W, W = w.setCells g a (cellsU s) := ⟨_, rfl⟩
  rw [← hW] at hc ⊢
  have z4 : a ≤ N := by omega
  have z6 : ¬ c = a := by omega
  obtain ⟨z, hz⟩ : ∃ z, z = s.size := ⟨_, rfl⟩
  clear h hN hW
  go_enter Tryz.func10, Tryz.ntmps10
  go_wp2_with fail
  refine (unhide Hm).mono ?_
  rintro e w2 ⟨rfl, hw2⟩
  subst hw2
  clear Hm
  go_wp2_with fail
  go_ret
  exact ⟨rfl, rfl⟩
end Go.Proofs.YtjjfdkdneibjbaaGreatDoor
/- Walk of package film: a copy; a film behind a write. -/
namespace Go.Proofs.YtjjfdkdneibjbaaGreatDoor
open Go.RowKit
variable {w : World} {p g c : Nat} {l : List UInt8}

theorem film_of (w : World) (l : List UInt8) (h : l.length ≤ 512) : ∃ W cap, (convert 9 108 (.string ⟨l.toArray⟩)).run Tryz.prog w = .ok (.slice (some ⟨w.heap.size, 0, none⟩) l.length cap) W ∧ Below w.heap.size w W ∧ W.heap.size = w.heap.size + 1 ∧
    FilmIs (W.alloc (.cells #[.slice (some ⟨w.heap.size, 0, none⟩) l.length cap] 111)) (w.heap.size + 1) w.heap.size cap l := by
  have hr := run_bytes_of_string (P := Tryz.prog) w 9 108 5 ⟨l.toArray⟩ Tryz.underlying9 Tryz.underlying108 Tryz.underlying5
  have hsz : (⟨l.toArray⟩ : ByteArray).size = l.length := by simp [ByteArray.size]
  rw [hsz] at hr
  obtain ⟨cap, hcap⟩ : ∃ cap, cap = grownCap w l.length 0 5 := ⟨_, rfl⟩
  have g1 : l.length ≤ cap := by rw [hcap]; exact grownCap_ge _ _ _ _
  have g2 : cap ≤ maxLen := by rw [hcap]; exact grownCap_le_maxLen _ _ _ _ (by unfold maxLen; omega)
  rw [← hcap] at hr
  obtain ⟨R, hR⟩ : ∃ R, R = bytesRow ⟨l.toArray⟩ cap := ⟨_, rfl⟩
  have hRs : l.length ≤ R.size := by
    rw [hR]; unfold bytesRow
    simp [ByteArray.size]
  have hRa : ∀ j (hj : j < l.length), R[j]? = some (.int .u8 (l[j].toNat : Int)) := fun j hj => by
    rw [hR, bytesRow_at _ _ _ (by simpa using hj)]
    simp
  rw [← hR] at hr
  clear hR
  have hh : ∀ o : Obj, ((w.drew.alloc (.cells R 5 (R.size, R.size + 1))).alloc o).heap[w.heap.size]? = some (.cells R 5 (R.size, R.size + 1)) := fun o => by
    rw [Below.heap_alloc _ _ _ (by simp)]
    show (w.heap.push _)[w.heap.size]? = _
    simp
  refine ⟨_, cap, hr, ((Below.refl _ _).drew).alloc (Nat.le_refl _) _, by simp, ⟨by simp, by simp; omega, by omega, ?_, g1, g2, h, fun j hj => ?_, fun j hj => ?_⟩⟩
  · have e : w.heap.size + 1 = (w.drew.alloc (.cells R 5 (R.size, R.size + 1))).heap.size := by simp
    rw [e]
    exact World.cell?_alloc_at _ _ _ _ rfl
  · have := hh (.cells #[.slice (some ⟨w.heap.size, 0, none⟩) l.length cap] 111)
    simp only [World.cell?, this]
    exact hRa j hj
  · have := hh (.cells #[.slice (some ⟨w.heap.size, 0, none⟩) l.length cap] 111)
    simp only [World.frozen?, this]
    simp
    omega
set_option maxHeartbeats 2000000 in
set_option maxRecDepth 20000 in
theorem film_copy (h : FilmIs w p g c l) : Calls Tryz.prog 20 #[.pointer (some ⟨p, 0, none⟩)] w fun e w' => (∃ p' g' c', e = .returned (.pointer (some ⟨p', 0, none⟩)) ∧ w.heap.size ≤ p' ∧ w.heap.size ≤ g' ∧ FilmIs w' p' g' c' l) ∧ Below w.heap.size w w' := by
  have Hb := hide (bytes_any h)
  obtain ⟨W, cap, hr, HB, hs, hF⟩ := film_of w l h.few
  have HF := hide hF
  obtain ⟨S, hS⟩ : ∃ S : ByteArray, S = ⟨l.toArray⟩ := ⟨_, rfl⟩
  rw [← hS] at Hb hr
  clear hF h hS
  go_enter Tryz.func20, Tryz.ntmps20
  go_wp2_with fail
  refine (unhide Hb).mono ?_
  rintro e w2 ⟨rfl, hw2⟩
  subst hw2
  clear Hb
  go_wp2_with fail
  go_ret
  exact ⟨⟨w2.heap.size + 1, w2.heap.size, cap, by rw [← hs]; rfl, by omega, Nat.le_refl _, unhide HF⟩, HB.alloc (by omega) _⟩
end Go.Proofs.YtjjfdkdneibjbaaGreatDoor
/- Walk of package film: a write that may not be, and one of nothing. -/
namespace Go.Proofs.YtjjfdkdneibjbaaGreatDoor
open Go.RowKit
variable {w : World} {p g c : Nat} {l : List UInt8}

set_option maxHeartbeats 1000000 in
theorem may_no (a : Int) (n : Nat) (h : FilmIs w p g c l) (ha : a < 0 ∨ (l.length : Int) < a + n) : Calls Tryz.prog 52 #[.pointer (some ⟨p, 0, none⟩), .int .i64 a, .int .i64 (n : Int)] w fun e w' => e = .returned (.bool false) ∧ w' = w := by
  have x0 := h.sl
  have x1 := h.le
  have x2 := h.cap
  have x3 := h.few
  obtain ⟨N, hN⟩ : ∃ N, N = l.length := ⟨_, rfl⟩
  rw [← hN] at x0 x1 x3 ha
  clear h hN
  by_cases h1 : 0 ≤ a
  · by_cases h2 : a ≤ N
    · have h3 : ¬ (n : Int) ≤ N - a := by omega
      go_enter Tryz.func52, Tryz.ntmps52
      go_wp2
      go_ret
      exact ⟨rfl, rfl⟩
    · clear ha
      go_enter Tryz.func52, Tryz.ntmps52
      go_wp2
      go_ret
      exact ⟨rfl, rfl⟩
  · clear ha
    go_enter Tryz.func52, Tryz.ntmps52
    go_wp2
    go_ret
    exact ⟨rfl, rfl⟩
set_option maxHeartbeats 2000000 in
set_option maxRecDepth 20000 in
theorem film_write_bad (a : Int) (s : ByteArray) (h : FilmIs w p g c l) (ha : a < 0 ∨ (l.length : Int) < a + s.size) : Calls Tryz.prog 10 #[.pointer (some ⟨p, 0, none⟩), .int .i64 a, .string s] w fun e w' => e = .returned (.int .i64 1) ∧ w' = w := by
  have Hm := hide (may_no a s.size h ha)
  clear h ha
  go_enter Tryz.func10, Tryz.ntmps10
  go_wp2_with fail
  refine (unhide Hm).mono ?_
  rintro e w2 ⟨rfl, hw2⟩
  subst hw2
  clear Hm
  go_wp2_with fail
  go_ret
  exact ⟨rfl, rfl⟩
set_option maxHeartbeats 2000000 in
set_option maxRecDepth 20000 in
theorem film_write_none (a : Nat) (s : ByteArray) (h : FilmIs w p g c l) (ha : a ≤ l.length) (hs : s.size = 0) : Calls Tryz.prog 10 #[.pointer (some ⟨p, 0, none⟩), .int .i64 (a : Int), .string s] w fun e w' => e = .returned (.int .i64 0) ∧ w' = w := by
  have x0 := h.sl
  have x1 := h.le
  have x2 := h.cap
  have x3 := h.few
  have e1 : s.data.toList = [] := List.eq_nil_of_length_eq_zero (by rw [Array.length_toList]; exact hs)
  have hc := h.copied a s (by omega) (c - a)
  have hc2 := run_copy_string (P := Tryz.prog) w 108 9 3 5 g 0 (l.length - a) 0 s Tryz.underlying108 Tryz.sizeU8 (by omega) (fun j hj => by omega) (fun j hj => by omega)
  rw [hs, e1] at hc2
  have e2 : cellsU s = [] := by unfold cellsU; rw [e1]; rfl
  rw [hs, e2] at hc
  have Hm := hide (may_yes a s.size h (by omega))
  rw [hs] at Hm
  obtain ⟨N, hN⟩ : ∃ N, N = l.length := ⟨_, rfl⟩
  rw [← hN] at x0 x1 x3 ha hc hc2
  have hc2 : (Builtin.copy_ #[108, 9] 3 #[.slice (some ⟨g, 0, none⟩) (N - a) 0, .string s]).run Tryz.prog w = .ok (goInt 0) w := hc2
  have hc : (Builtin.copy_ #[108, 9] 3 #[.slice (some ⟨g, a, none⟩) (N - a) (c - a), .string s]).run Tryz.prog w = .ok (goInt 0) w := hc
  have z4 : a ≤ N := by omega
  clear h hN e2 e1
  by_cases z6 : c = a
  · go_enter Tryz.func10, Tryz.ntmps10
    go_wp2_with fail
    refine (unhide Hm).mono ?_
    rintro e w2 ⟨rfl, hw2⟩
    subst hw2
    clear Hm
    go_wp2_with fail
    go_ret
    exact ⟨rfl, rfl⟩
  · go_enter Tryz.func10, Tryz.ntmps10
    go_wp2_with fail
    refine (unhide Hm).mono ?_
    rintro e w2 ⟨rfl, hw2⟩
    subst hw2
    clear Hm
    go_wp2_with fail
    go_ret
    exact ⟨rfl, rfl⟩
end Go.Proofs.YtjjfdkdneibjbaaGreatDoor
