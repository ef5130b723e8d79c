/- Joined texts: FilmA, FilmB. -/
import Derived.Test.YtjjfdkdneibjbaaGreatDoorJa01
import Derived.Laws.BytesArg
import Derived.Laws.IdiomStrings
/- Walk of package film: how many blocks; are there so many bytes; bytes are read. -/
namespace Go.Proofs.YtjjfdkdneibjbaaGreatDoor
open Go.RowKit

/-- A film of these bytes: its pointer p, its block g. -/
structure FilmIs (w : World) (p g c : Nat) (l : List UInt8) : Prop where
  lp : p < w.heap.size
  lg : g < w.heap.size
  ne : p ≠ g
  sl : w.cell? ⟨p, 0, none⟩ = some (.slice (some ⟨g, 0, none⟩) l.length c)
  le : l.length ≤ c
  cap : c ≤ maxLen
  few : l.length ≤ 512
  cell : ∀ j (hj : j < l.length), w.cell? ⟨g, j, none⟩ = some (.int .u8 (l[j].toNat : Int))
  free : ∀ j, j < l.length → w.frozen? ⟨g, j, none⟩ = false
variable {w : World} {p g c : Nat} {l : List UInt8}
theorem FilmIs.below {w' : World} (h : FilmIs w p g c l) (hb : Below w.heap.size w w') : FilmIs w' p g c l :=
  ⟨Nat.lt_of_lt_of_le h.lp hb.size, Nat.lt_of_lt_of_le h.lg hb.size, h.ne, ((bcell hb).1 _ _ h.lp).trans h.sl, h.le, h.cap, h.few, fun j hj => ((bcell hb).1 _ _ h.lg).trans (h.cell j hj), fun j hj => ((bcell hb).2 _ _ h.lg).trans (h.free j hj)⟩
set_option maxHeartbeats 1000000 in
theorem blocks_any (n : Nat) (h : FilmIs w p g c l) (hl : l.length = 8 * n) : Calls Tryz.prog 55 #[.pointer (some ⟨p, 0, none⟩)] w fun e w' => e = .returned (.int .i64 (n : Int)) ∧ w' = w := by
  have x0 := h.sl
  have x1 := h.le
  have x2 := h.cap
  have x3 := h.few
  rw [hl] at x0 x1 x3
  clear h hl
  go_enter Tryz.func55, Tryz.ntmps55
  go_wp2
  go_ret
  exact ⟨rfl, rfl⟩
set_option maxHeartbeats 1000000 in
theorem may_yes (a n : Nat) (h : FilmIs w p g c l) (ha : a + n ≤ l.length) : Calls Tryz.prog 52 #[.pointer (some ⟨p, 0, none⟩), .int .i64 (a : Int), .int .i64 (n : Int)] w fun e w' => e = .returned (.bool true) ∧ w' = w := by
  have x0 := h.sl
  have x1 := h.le
  have x2 := h.cap
  have x3 := h.few
  obtain ⟨N, hN⟩ : ∃ N, N = l.length := ⟨_, rfl⟩
  rw [← hN] at x0 x1 x3 ha
  have y1 : (a : Int) ≤ N := by omega
  have y2 : (n : Int) ≤ N - a := by omega
  clear h hN
  go_enter Tryz.func52, Tryz.ntmps52
  go_wp2
  go_ret
  exact ⟨rfl, rfl⟩
/-- Bytes of a film, as a string. -/
def cutS (l : List UInt8) (a n : Nat) : ByteArray := ⟨((l.drop a).take n).toArray⟩
theorem FilmIs.conv (h : FilmIs w p g c l) {a n : Nat} (ha : a + n ≤ l.length) (cap : Nat) : (convert 108 9 (.slice (some ⟨g, a, none⟩) n cap)).run Tryz.prog w = .ok (.string (cutS l a n)) w := by
  have hl : ((l.drop a).take n).length = n := by rw [List.length_take, List.length_drop]; omega
  have := run_convert_bytes_back (P := Tryz.prog) w 108 9 5 ⟨g, a, none⟩ cap ((l.drop a).take n) Tryz.underlying108 Tryz.underlying5 Tryz.underlying9 (fun j hj => by
    rw [hl] at hj
    have := h.cell (a + j) (by omega)
    rw [Go.WideShapes.add_plain]
    simpa using this)
  rw [hl] at this
  exact this
set_option maxHeartbeats 1000000 in
set_option maxRecDepth 20000 in
theorem read_any (a n : Nat) (h : FilmIs w p g c l) (ha : a + n ≤ l.length) (hn0 : 0 < n) : Calls Tryz.prog 124 #[.pointer (some ⟨p, 0, none⟩), .int .i64 (a : Int), .int .i64 (n : Int)] w fun e w' => e = .returned (.tuple #[.string (cutS l a n), .int .i64 0]) ∧ w' = w := by
  have x0 := h.sl
  have x1 := h.le
  have x2 := h.cap
  have x3 := h.few
  have hc := h.conv ha
  have Hm := hide fun w1 : World => fun h1 : w1 = w => (by rw [h1]; exact may_yes a n h ha : Calls Tryz.prog 52 #[.pointer (some ⟨p, 0, none⟩), .int .i64 (a : Int), .int .i64 (n : Int)] w1 fun e w' => e = .returned (.bool true) ∧ w' = w1)
  obtain ⟨N, hN⟩ : ∃ N, N = l.length := ⟨_, rfl⟩
  rw [← hN] at x0 x1 x3 ha
  obtain ⟨S, hS⟩ : ∃ S, S = cutS l a n := ⟨_, rfl⟩
  rw [← hS] at hc ⊢
  clear h hN hS
  go_enter Tryz.func124, Tryz.ntmps124
  go_wp2_with fail
  refine (unhide Hm _ rfl).mono ?_
  rintro e w2 ⟨rfl, hw2⟩
  subst hw2
  clear Hm
  have z1 : (a : Int) + (n : Int) ≤ N := by omega
  have z2 : ((a : Int) + (n : Int)).toNat = a + n := by omega
  have z3 : a + n - a = n := by omega
  have z4 : a + n ≤ c := by omega
  have z5 : a ≤ a + n := by omega
  have z6 : ¬ c = a := by omega
  go_wp2_with fail
  go_ret2
  exact ⟨rfl, rfl⟩
set_option maxHeartbeats 1000000 in
set_option maxRecDepth 20000 in
/-- A block of a film, as a string. -/
theorem block_any (n k : Nat) (h : FilmIs w p g c l) (hl : l.length = 8 * n) (hk : k < n) : Calls Tryz.prog 60 #[.pointer (some ⟨p, 0, none⟩), .int .i64 (k : Int)] w fun e w' => e = .returned (.tuple #[.string (cutS l (8 * k) 8), .int .i64 0]) ∧ w' = w := by
  have hn : n ≤ 64 := by have := h.few; omega
  have Hb := hide (blocks_any n h hl)
  have Hr := hide (read_any (8 * k) 8 h (by omega) (by omega))
  obtain ⟨S, hS⟩ : ∃ S, S = cutS l (8 * k) 8 := ⟨_, rfl⟩
  rw [← hS] at Hr ⊢
  clear h hl hS
  go_enter Tryz.func60, Tryz.ntmps60
  go_wp2_with fail
  refine (unhide Hb).mono ?_
  rintro e w2 ⟨rfl, hw2⟩
  subst hw2
  have z1 : ¬ (n : Int) ≤ k := by omega
  go_wp2_with fail
  have hr := unhide Hr
  rw [show ((8 * k : Nat) : Int) = (k : Int) * 8 by omega, show ((8 : Nat) : Int) = 8 from rfl] at hr
  refine hr.mono ?_
  rintro e w3 ⟨rfl, hw3⟩
  subst hw3
  clear hr Hr Hb
  go_wp2_with fail
  go_ret2
  exact ⟨rfl, rfl⟩
end Go.Proofs.YtjjfdkdneibjbaaGreatDoor
/- Walk of package film: all bytes; a new film; bytes are written. -/
namespace Go.Proofs.YtjjfdkdneibjbaaGreatDoor
open Go.RowKit
variable {w : World} {p g c : Nat} {l : List UInt8}

theorem cutS_all (l : List UInt8) : cutS l 0 l.length = ⟨l.toArray⟩ := by simp [cutS]
set_option maxHeartbeats 1000000 in
theorem bytes_any (h : FilmIs w p g c l) : Calls Tryz.prog 11 #[.pointer (some ⟨p, 0, none⟩)] w fun e w' => e = .returned (.string ⟨l.toArray⟩) ∧ w' = w := by
  have x0 := h.sl
  have hc := h.conv (a := 0) (n := l.length) (by omega)
  rw [cutS_all] at hc
  obtain ⟨N, hN⟩ : ∃ N, N = l.length := ⟨_, rfl⟩
  rw [← hN] at x0 hc
  obtain ⟨S, hS⟩ : ∃ S : ByteArray, S = ⟨l.toArray⟩ := ⟨_, rfl⟩
  rw [← hS] at hc ⊢
  clear h hN hS
  go_enter Tryz.func11, Tryz.ntmps11
  go_wp2
  go_ret
  exact ⟨rfl, rfl⟩
theorem Tryz.infoU8 : (Tryz.prog.info? 5).map (fun i => (i.zero, i.size, i.bytes)) = some (some (.int .u8 0), 1, 1) := by kernel_rfl
theorem cell_heap {W : World} {b i t : Nat} {cs : Array Value} {u : Value} (h : W.heap[b]? = some (.cells cs t (0, 0))) (hu : cs[i]? = some u) : W.cell? ⟨b, i, none⟩ = some u := by simp [World.cell?, h, hu]
theorem froz_heap {W : World} {b i t : Nat} {cs : Array Value} (h : W.heap[b]? = some (.cells cs t (0, 0))) : W.frozen? ⟨b, i, none⟩ = false := by simp [World.frozen?, h]
theorem film_made (w : World) (N : Nat) (h : N ≤ 512) : ∃ W, (Instr.makeSlice 108 (.int .i64 (N : Int)) (.int .i64 (N : Int))).run Tryz.prog w = .ok (.slice (some ⟨w.heap.size, 0, none⟩) N N) W ∧ Below w.heap.size w W ∧ W.heap.size = w.heap.size + 1 ∧
    FilmIs (W.alloc (.cells #[.slice (some ⟨w.heap.size, 0, none⟩) N N] 111)) (w.heap.size + 1) w.heap.size N (List.replicate N 0) := by
  obtain ⟨i0, hi, hz0, hz1, hz2⟩ := info_parts Tryz.infoU8
  have hr := run_makeSlice (P := Tryz.prog) (w := w) 108 5 i0 _ Tryz.underlying108 hi hz0 .i64 .i64 N N (by omega) (Int.le_refl _) (by rw [hz1]; omega) (by rw [hz2]; omega) (by omega)
  rw [hz1, Nat.mul_one, Int.toNat_natCast] at hr
  have hm : (madeCells (Value.int .u8 0).cells N) = (List.replicate N (Value.int .u8 0)).toArray := by
    apply Array.ext_getElem?
    intro k
    by_cases hk : k < N
    · simp [madeCells, Value.cells, hk, Nat.mod_one]
    · simp [madeCells, Value.cells, hk, Nat.mod_one]
  rw [hm] at hr
  have hh : ∀ o : Obj, ((w.alloc (.cells (List.replicate N (Value.int .u8 0)).toArray 5)).alloc o).heap[w.heap.size]? = some (.cells (List.replicate N (Value.int .u8 0)).toArray 5) := fun o => by
    rw [Below.heap_alloc _ _ _ (by simp)]
    show (w.heap.push _)[w.heap.size]? = _
    simp
  refine ⟨_, hr, (Below.refl _ _).alloc (Nat.le_refl _) _, by simp, ⟨by simp, by simp; omega, by omega, ?_, by simp, by unfold maxLen; omega, by simpa using h, fun j hj => ?_, fun j hj => ?_⟩⟩
  · rw [List.length_replicate]
    have e : w.heap.size + 1 = (w.alloc (.cells (List.replicate N (Value.int .u8 0)).toArray 5)).heap.size := by simp
    rw [e]
    exact World.cell?_alloc_at _ _ _ _ rfl
  · rw [List.length_replicate] at hj
    exact cell_heap (hh _) (by simp [hj])
  · rw [List.length_replicate] at hj
    exact froz_heap (hh _)
set_option maxHeartbeats 2000000 in
set_option maxRecDepth 20000 in
theorem film_new (n : Nat) (hn : 1 ≤ n ∧ n ≤ 64) (w : World) : Calls Tryz.prog 8 #[.int .i64 (n : Int)] w fun e w' => (∃ p g c, e = .returned (.tuple #[.pointer (some ⟨p, 0, none⟩), .int .i64 0]) ∧ w.heap.size ≤ p ∧ w.heap.size ≤ g ∧ FilmIs w' p g c (List.replicate (n * 8) 0)) ∧ Below w.heap.size w w' := by
  obtain ⟨h1, h2⟩ := hn
  have z1 : (1 : Int) ≤ n := by omega
  have z2 : (n : Int) ≤ 64 := by omega
  obtain ⟨W, hr, HB, hs, hF⟩ := film_made w (n * 8) (by omega)
  rw [show ((n * 8 : Nat) : Int) = (n : Int) * 8 by omega] at hr
  have HF := hide hF
  clear hF
  go_enter Tryz.func8, Tryz.ntmps8
  go_wp2_with fail
  go_ret2
  exact ⟨⟨w.heap.size + 1, w.heap.size, n * 8, by rw [← hs]; rfl, by omega, Nat.le_refl _, unhide HF⟩, HB.alloc (by omega) _⟩
end Go.Proofs.YtjjfdkdneibjbaaGreatDoor
