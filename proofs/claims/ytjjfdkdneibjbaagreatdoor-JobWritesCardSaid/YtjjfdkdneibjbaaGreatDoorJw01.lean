/- Joined texts: Lib, FilmA, FilmB, FilmC, FilmD, Own, Chg, FilmE. -/
import Derived.Test.YtjjfdkdneibjbaaGreatDoorProg
import Derived.WalkKit
import Derived.WalkSpells
import Derived.WalkLawsBesides
import Derived.Deep.QuietTactic
import Derived.BigQuiet
import Derived.Maps.AppendAt
import Derived.Laws.BytesArg
import Derived.Laws.IdiomStrings
import Derived.Lib.LazyBuf
import Derived.Deep.AppendLies
/- Words that all walks of this seat use: hidden facts, worlds below a bound, lists that are read off a row of cells. -/
namespace Go.Proofs.YtjjfdkdneibjbaaGreatDoor
open Go.RowKit

theorem hide {p : Prop} (h : p) : Hid p := h
theorem unhide {p : Prop} (h : Hid p) : p := h
theorem below_drewN {B : Nat} {a w : World} (h : Below B a w) (n : Nat) : Below B a (w.drewN n) := ⟨h.os, h.tape, h.output, h.size, h.block⟩
theorem bcell {W w1 : World} {B : Nat} (hb : Below B W w1) : (∀ b o, b < B → w1.cell? ⟨b, o, none⟩ = W.cell? ⟨b, o, none⟩) ∧ (∀ b o, b < B → w1.frozen? ⟨b, o, none⟩ = W.frozen? ⟨b, o, none⟩) :=
  ⟨fun b o h => hb.cell (p := ⟨b, o, none⟩) h, fun b o h => hb.frozen (p := ⟨b, o, none⟩) h⟩

theorem own_lower {w : World} {base base' : Nat} {e : TypeId} {size n : Nat} {v : Value} {xs : List Value} (h : w.ownsRow base e size v n xs) (hb : base' ≤ base) : w.ownsRow base' e size v n xs := by
  obtain ⟨h1, h2⟩ := h
  refine ⟨h1, ?_⟩
  rcases h2 with h2 | ⟨g, cap, cur, rfl, hg, r⟩
  · exact .inl h2
  · exact .inr ⟨g, cap, cur, rfl, Nat.le_trans hb hg, r⟩
theorem own_below {w w1 : World} {base : Nat} {e : TypeId} {size n : Nat} {v : Value} {xs : List Value} (h : w.ownsRow base e size v n xs) (hb : Below w.heap.size w w1) : w1.ownsRow base e size v n xs := by
  obtain ⟨h1, h2⟩ := h
  refine ⟨h1, ?_⟩
  rcases h2 with h2 | ⟨g, cap, cur, rfl, hg, hh, r⟩
  · exact .inl h2
  · exact .inr ⟨g, cap, cur, rfl, hg, (hb.block g (Array.getElem?_eq_some_iff.1 hh).1).trans hh, r⟩
theorem ret_int {k : IntKind} {a b : Int} (h : a = b) : Ending.returned (.int k a) = .returned (.int k b) := by rw [h]
theorem ret_bool {a b : Bool} (h : a = b) : Ending.returned (.bool a) = .returned (.bool b) := by rw [h]

/-- How an element lies in cells. -/
structure Enc (α : Type) where
  sz : Nat
  cell : α → Nat → Value

/-- The elements xs stand from cell off of block b on. -/
def Rd {α : Type} (E : Enc α) (w : World) (b off : Nat) (xs : List α) : Prop :=
  ∀ i (hi : i < xs.length) j, j < E.sz → w.cell? ⟨b, off + i * E.sz + j, none⟩ = some (E.cell xs[i] j)

section
variable {α : Type} {E : Enc α} {w w' : World} {b off : Nat} {xs : List α}
theorem Rd.below (h : Rd E w b off xs) {B : Nat} (hb : Below B w w') (hlt : b < B) : Rd E w' b off xs :=
  fun i hi j hj => by rw [(bcell hb).1 _ _ hlt]; exact h i hi j hj
theorem Rd.drop (h : Rd E w b off xs) (m : Nat) : Rd E w b (off + m * E.sz) (xs.drop m) := by
  intro i hi j hj
  rw [List.length_drop] at hi
  have := h (m + i) (by omega) j hj
  rw [show off + m * E.sz + i * E.sz + j = off + (m + i) * E.sz + j by rw [Nat.add_mul]; omega, this, List.getElem_drop]
end

/-- The slice value .slice A n c reads as xs. -/
def Sl {α : Type} (E : Enc α) (w : World) (A : Option Addr) (n c : Nat) (xs : List α) : Prop :=
  n = xs.length ∧ n ≤ c ∧ c ≤ 9223372036854775807 ∧ (0 < n → ∃ b off, A = some ⟨b, off, none⟩ ∧ b < w.heap.size ∧ Rd E w b off xs)

section
variable {α : Type} {E : Enc α} {w w' : World} {A : Option Addr} {n c : Nat} {xs : List α}
theorem Sl.below (h : Sl E w A n c xs) (hb : Below w.heap.size w w') : Sl E w' A n c xs :=
  ⟨h.1, h.2.1, h.2.2.1, fun hn => by
    obtain ⟨b, off, e, hlt, hr⟩ := h.2.2.2 hn
    exact ⟨b, off, e, Nat.lt_of_lt_of_le hlt hb.size, hr.below hb hlt⟩⟩
theorem Sl.nil_ (E : Enc α) (w : World) : Sl E w none 0 0 [] := ⟨rfl, Nat.le_refl _, by omega, fun h => by omega⟩
end

def eI : Enc Int := ⟨1, fun x _ => .int .i64 x⟩

end Go.Proofs.YtjjfdkdneibjbaaGreatDoor
/- Walk of package film: how many blocks; are there so many bytes; bytes are read. -/
namespace Go.Proofs.YtjjfdkdneibjbaaGreatDoor
open Go.RowKit

/-- A film of these bytes: its pointer p, its block g. -/
structure FilmIs (w : World) (p g c : Nat) (l : List UInt8) : Prop where
  lp : p < w.heap.size
  lg : g < w.heap.size
  ne : p ≠ g
  sl : w.cell? ⟨p, 0, none⟩ = some (.slice (some ⟨g, 0, none⟩) l.length c)
  le : l.length ≤ c
  cap : c ≤ maxLen
  few : l.length ≤ 512
  cell : ∀ j (hj : j < l.length), w.cell? ⟨g, j, none⟩ = some (.int .u8 (l[j].toNat : Int))
  free : ∀ j, j < l.length → w.frozen? ⟨g, j, none⟩ = false
variable {w : World} {p g c : Nat} {l : List UInt8}
theorem FilmIs.below {w' : World} (h : FilmIs w p g c l) (hb : Below w.heap.size w w') : FilmIs w' p g c l :=
  ⟨Nat.lt_of_lt_of_le h.lp hb.size, Nat.lt_of_lt_of_le h.lg hb.size, h.ne, ((bcell hb).1 _ _ h.lp).trans h.sl, h.le, h.cap, h.few, fun j hj => ((bcell hb).1 _ _ h.lg).trans (h.cell j hj), fun j hj => ((bcell hb).2 _ _ h.lg).trans (h.free j hj)⟩
set_option maxHeartbeats 1000000 in
theorem blocks_any (n : Nat) (h : FilmIs w p g c l) (hl : l.length = 8 * n) : Calls Tryz.prog 55 #[.pointer (some ⟨p, 0, none⟩)] w fun e w' => e = .returned (.int .i64 (n : Int)) ∧ w' = w := by
  have x0 := h.sl
  have x1 := h.le
  have x2 := h.cap
  have x3 := h.few
  rw [hl] at x0 x1 x3
  clear h hl
  go_enter Tryz.func55, Tryz.ntmps55
  go_wp2
  go_ret
  exact ⟨rfl, rfl⟩
set_option maxHeartbeats 1000000 in
theorem may_yes (a n : Nat) (h : FilmIs w p g c l) (ha : a + n ≤ l.length) : Calls Tryz.prog 52 #[.pointer (some ⟨p, 0, none⟩), .int .i64 (a : Int), .int .i64 (n : Int)] w fun e w' => e = .returned (.bool true) ∧ w' = w := by
  have x0 := h.sl
  have x1 := h.le
  have x2 := h.cap
  have x3 := h.few
  obtain ⟨N, hN⟩ : ∃ N, N = l.length := ⟨_, rfl⟩
  rw [← hN] at x0 x1 x3 ha
  have y1 : (a : Int) ≤ N := by omega
  have y2 : (n : Int) ≤ N - a := by omega
  clear h hN
  go_enter Tryz.func52, Tryz.ntmps52
  go_wp2
  go_ret
  exact ⟨rfl, rfl⟩
/-- Bytes of a film, as a string. -/
def cutS (l : List UInt8) (a n : Nat) : ByteArray := ⟨((l.drop a).take n).toArray⟩
theorem FilmIs.conv (h : FilmIs w p g c l) {a n : Nat} (ha : a + n ≤ l.length) (cap : Nat) : (convert 108 9 (.slice (some ⟨g, a, none⟩) n cap)).run Tryz.prog w = .ok (.string (cutS l a n)) w := by
  have hl : ((l.drop a).take n).length = n := by rw [List.length_take, List.length_drop]; omega
  have := run_convert_bytes_back (P := Tryz.prog) w 108 9 5 ⟨g, a, none⟩ cap ((l.drop a).take n) Tryz.underlying108 Tryz.underlying5 Tryz.underlying9 (fun j hj => by
    rw [hl] at hj
    have := h.cell (a + j) (by omega)
    rw [Go.WideShapes.add_plain]
    simpa using this)
  rw [hl] at this
  exact this
set_option maxHeartbeats 1000000 in
set_option maxRecDepth 20000 in
theorem read_any (a n : Nat) (h : FilmIs w p g c l) (ha : a + n ≤ l.length) (hn0 : 0 < n) : Calls Tryz.prog 124 #[.pointer (some ⟨p, 0, none⟩), .int .i64 (a : Int), .int .i64 (n : Int)] w fun e w' => e = .returned (.tuple #[.string (cutS l a n), .int .i64 0]) ∧ w' = w := by
  have x0 := h.sl
  have x1 := h.le
  have x2 := h.cap
  have x3 := h.few
  have hc := h.conv ha
  have Hm := hide fun w1 : World => fun h1 : w1 = w => (by rw [h1]; exact may_yes a n h ha : Calls Tryz.prog 52 #[.pointer (some ⟨p, 0, none⟩), .int .i64 (a : Int), .int .i64 (n : Int)] w1 fun e w' => e = .returned (.bool true) ∧ w' = w1)
  obtain ⟨N, hN⟩ : ∃ N, N = l.length := ⟨_, rfl⟩
  rw [← hN] at x0 x1 x3 ha
  obtain ⟨S, hS⟩ : ∃ S, S = cutS l a n := ⟨_, rfl⟩
  rw [← hS] at hc ⊢
  clear h hN hS
  go_enter Tryz.func124, Tryz.ntmps124
  go_wp2_with fail
  refine (unhide Hm _ rfl).mono ?_
  rintro e w2 ⟨rfl, hw2⟩
  subst hw2
  clear Hm
  have z1 : (a : Int) + (n : Int) ≤ N := by omega
  have z2 : ((a : Int) + (n : Int)).toNat = a + n := by omega
  have z3 : a + n - a = n := by omega
  have z4 : a + n ≤ c := by omega
  have z5 : a ≤ a + n := by omega
  have z6 : ¬ c = a := by omega
  go_wp2_with fail
  go_ret2
  exact ⟨rfl, rfl⟩
set_option maxHeartbeats 1000000 in
set_option maxRecDepth 20000 in
/-- A block of a film, as a string. -/
theorem block_any (n k : Nat) (h : FilmIs w p g c l) (hl : l.length = 8 * n) (hk : k < n) : Calls Tryz.prog 60 #[.pointer (some ⟨p, 0, none⟩), .int .i64 (k : Int)] w fun e w' => e = .returned (.tuple #[.string (cutS l (8 * k) 8), .int .i64 0]) ∧ w' = w := by
  have hn : n ≤ 64 := by have := h.few; omega
  have Hb := hide (blocks_any n h hl)
  have Hr := hide (read_any (8 * k) 8 h (by omega) (by omega))
  obtain ⟨S, hS⟩ : ∃ S, S = cutS l (8 * k) 8 := ⟨_, rfl⟩
  rw [← hS] at Hr ⊢
  clear h hl hS
  go_enter Tryz.func60, Tryz.ntmps60
  go_wp2_with fail
  refine (unhide Hb).mono ?_
  rintro e w2 ⟨rfl, hw2⟩
  subst hw2
  have z1 : ¬ (n : Int) ≤ k := by omega
  go_wp2_with fail
  have hr := unhide Hr
  rw [show ((8 * k : Nat) : Int) = (k : Int) * 8 by omega, show ((8 : Nat) : Int) = 8 from rfl] at hr
  refine hr.mono ?_
  rintro e w3 ⟨rfl, hw3⟩
  subst hw3
  clear hr Hr Hb
  go_wp2_with fail
  go_ret2
  exact ⟨rfl, rfl⟩
end Go.Proofs.YtjjfdkdneibjbaaGreatDoor
/- Walk of package film: all bytes; a new film; bytes are written. -/
namespace Go.Proofs.YtjjfdkdneibjbaaGreatDoor
open Go.RowKit
variable {w : World} {p g c : Nat} {l : List UInt8}

theorem cutS_all (l : List UInt8) : cutS l 0 l.length = ⟨l.toArray⟩ := by simp [cutS]
set_option maxHeartbeats 1000000 in
theorem bytes_any (h : FilmIs w p g c l) : Calls Tryz.prog 11 #[.pointer (some ⟨p, 0, none⟩)] w fun e w' => e = .returned (.string ⟨l.toArray⟩) ∧ w' = w := by
  have x0 := h.sl
  have hc := h.conv (a := 0) (n := l.length) (by omega)
  rw [cutS_all] at hc
  obtain ⟨N, hN⟩ : ∃ N, N = l.length := ⟨_, rfl⟩
  rw [← hN] at x0 hc
  obtain ⟨S, hS⟩ : ∃ S : ByteArray, S = ⟨l.toArray⟩ := ⟨_, rfl⟩
  rw [← hS] at hc ⊢
  clear h hN hS
  go_enter Tryz.func11, Tryz.ntmps11
  go_wp2
  go_ret
  exact ⟨rfl, rfl⟩
theorem Tryz.infoU8 : (Tryz.prog.info? 5).map (fun i => (i.zero, i.size, i.bytes)) = some (some (.int .u8 0), 1, 1) := by kernel_rfl
theorem cell_heap {W : World} {b i t : Nat} {cs : Array Value} {u : Value} (h : W.heap[b]? = some (.cells cs t (0, 0))) (hu : cs[i]? = some u) : W.cell? ⟨b, i, none⟩ = some u := by simp [World.cell?, h, hu]
theorem froz_heap {W : World} {b i t : Nat} {cs : Array Value} (h : W.heap[b]? = some (.cells cs t (0, 0))) : W.frozen? ⟨b, i, none⟩ = false := by simp [World.frozen?, h]
theorem film_made (w : World) (N : Nat) (h : N ≤ 512) : ∃ W, (Instr.makeSlice 108 (.int .i64 (N : Int)) (.int .i64 (N : Int))).run Tryz.prog w = .ok (.slice (some ⟨w.heap.size, 0, none⟩) N N) W ∧ Below w.heap.size w W ∧ W.heap.size = w.heap.size + 1 ∧
    FilmIs (W.alloc (.cells #[.slice (some ⟨w.heap.size, 0, none⟩) N N] 111)) (w.heap.size + 1) w.heap.size N (List.replicate N 0) := by
  obtain ⟨i0, hi, hz0, hz1, hz2⟩ := info_parts Tryz.infoU8
  have hr := run_makeSlice (P := Tryz.prog) (w := w) 108 5 i0 _ Tryz.underlying108 hi hz0 .i64 .i64 N N (by omega) (Int.le_refl _) (by rw [hz1]; omega) (by rw [hz2]; omega) (by omega)
  rw [hz1, Nat.mul_one, Int.toNat_natCast] at hr
  have hm : (madeCells (Value.int .u8 0).cells N) = (List.replicate N (Value.int .u8 0)).toArray := by
    apply Array.ext_getElem?
    intro k
    by_cases hk : k < N
    · simp [madeCells, Value.cells, hk, Nat.mod_one]
    · simp [madeCells, Value.cells, hk, Nat.mod_one]
  rw [hm] at hr
  have hh : ∀ o : Obj, ((w.alloc (.cells (List.replicate N (Value.int .u8 0)).toArray 5)).alloc o).heap[w.heap.size]? = some (.cells (List.replicate N (Value.int .u8 0)).toArray 5) := fun o => by
    rw [Below.heap_alloc _ _ _ (by simp)]
    show (w.heap.push _)[w.heap.size]? = _
    simp
  refine ⟨_, hr, (Below.refl _ _).alloc (Nat.le_refl _) _, by simp, ⟨by simp, by simp; omega, by omega, ?_, by simp, by unfold maxLen; omega, by simpa using h, fun j hj => ?_, fun j hj => ?_⟩⟩
  · rw [List.length_replicate]
    have e : w.heap.size + 1 = (w.alloc (.cells (List.replicate N (Value.int .u8 0)).toArray 5)).heap.size := by simp
    rw [e]
    exact World.cell?_alloc_at _ _ _ _ rfl
  · rw [List.length_replicate] at hj
    exact cell_heap (hh _) (by simp [hj])
  · rw [List.length_replicate] at hj
    exact froz_heap (hh _)
set_option maxHeartbeats 2000000 in
set_option maxRecDepth 20000 in
theorem film_new (n : Nat) (hn : 1 ≤ n ∧ n ≤ 64) (w : World) : Calls Tryz.prog 8 #[.int .i64 (n : Int)] w fun e w' => (∃ p g c, e = .returned (.tuple #[.pointer (some ⟨p, 0, none⟩), .int .i64 0]) ∧ w.heap.size ≤ p ∧ w.heap.size ≤ g ∧ FilmIs w' p g c (List.replicate (n * 8) 0)) ∧ Below w.heap.size w w' := by
  obtain ⟨h1, h2⟩ := hn
  have z1 : (1 : Int) ≤ n := by omega
  have z2 : (n : Int) ≤ 64 := by omega
  obtain ⟨W, hr, HB, hs, hF⟩ := film_made w (n * 8) (by omega)
  rw [show ((n * 8 : Nat) : Int) = (n : Int) * 8 by omega] at hr
  have HF := hide hF
  clear hF
  go_enter Tryz.func8, Tryz.ntmps8
  go_wp2_with fail
  go_ret2
  exact ⟨⟨w.heap.size + 1, w.heap.size, n * 8, by rw [← hs]; rfl, by omega, Nat.le_refl _, unhide HF⟩, HB.alloc (by omega) _⟩
end Go.Proofs.YtjjfdkdneibjbaaGreatDoor
/- Walk of package film: bytes are written. -/
namespace Go.Proofs.YtjjfdkdneibjbaaGreatDoor
open Go.RowKit
variable {w : World} {p g c : Nat} {l : List UInt8}

theorem Tryz.sizeU8 (w : World) : (Go.sizeOf 5).run Tryz.prog w = .ok 1 w := by
  obtain ⟨i0, hi, hz0, hz1, hz2⟩ := info_parts Tryz.infoU8
  simp [Go.sizeOf, typeInfo, hi, hz1]
def cellsU (s : ByteArray) : List Value := s.data.toList.map fun x => Value.int .u8 (x.toNat : Int)
theorem FilmIs.copied (h : FilmIs w p g c l) (a : Nat) (s : ByteArray) (ha : a + s.size ≤ l.length) (cap : Nat) : (Builtin.copy_ #[108, 9] 3 #[.slice (some ⟨g, a, none⟩) (l.length - a) cap, .string s]).run Tryz.prog w = .ok (goInt s.size) (w.setCells g a (cellsU s)) :=
  run_copy_string w _ _ _ _ g a _ _ s Tryz.underlying108 Tryz.sizeU8 (by omega) (fun j hj => by rw [h.cell (a + j) (by omega)]; rfl) (fun j hj => h.free (a + j) (by omega))
set_option maxHeartbeats 2000000 in
set_option maxRecDepth 20000 in
theorem film_write (a : Nat) (s : ByteArray) (h : FilmIs w p g c l) (ha : a + s.size ≤ l.length) (hs : 0 < s.size) : Calls Tryz.prog 10 #[.pointer (some ⟨p, 0, none⟩), .int .i64 (a : Int), .string s] w fun e w' => e = .returned (.int .i64 0) ∧ w' = w.setCells g a (cellsU s) := by
  have x0 := h.sl
  have x1 := h.le
  have x2 := h.cap
  have x3 := h.few
  have hc := h.copied a s ha (c - a)
  have Hm := hide (may_yes a s.size h ha)
  obtain ⟨N, hN⟩ : ∃ N, N = l.length := ⟨_, rfl⟩
  rw [← hN] at x0 x1 x3 ha hc
  obtain ⟨W, hW⟩ : ∃ W, W = w.setCells g a (cellsU s) := ⟨_, rfl⟩
  rw [← hW] at hc ⊢
  have z4 : a ≤ N := by omega
  have z6 : ¬ c = a := by omega
  obtain ⟨z, hz⟩ : ∃ z, z = s.size := ⟨_, rfl⟩
  clear h hN hW
  go_enter Tryz.func10, Tryz.ntmps10
  go_wp2_with fail
  refine (unhide Hm).mono ?_
  rintro e w2 ⟨rfl, hw2⟩
  subst hw2
  clear Hm
  go_wp2_with fail
  go_ret
  exact ⟨rfl, rfl⟩
end Go.Proofs.YtjjfdkdneibjbaaGreatDoor
/- Walk of package film: a copy; a film behind a write. -/
namespace Go.Proofs.YtjjfdkdneibjbaaGreatDoor
open Go.RowKit
variable {w : World} {p g c : Nat} {l : List UInt8}

theorem film_of (w : World) (l : List UInt8) (h : l.length ≤ 512) : ∃ W cap, (convert 9 108 (.string ⟨l.toArray⟩)).run Tryz.prog w = .ok (.slice (some ⟨w.heap.size, 0, none⟩) l.length cap) W ∧ Below w.heap.size w W ∧ W.heap.size = w.heap.size + 1 ∧
    FilmIs (W.alloc (.cells #[.slice (some ⟨w.heap.size, 0, none⟩) l.length cap] 111)) (w.heap.size + 1) w.heap.size cap l := by
  have hr := run_bytes_of_string (P := Tryz.prog) w 9 108 5 ⟨l.toArray⟩ Tryz.underlying9 Tryz.underlying108 Tryz.underlying5
  have hsz : (⟨l.toArray⟩ : ByteArray).size = l.length := by simp [ByteArray.size]
  rw [hsz] at hr
  obtain ⟨cap, hcap⟩ : ∃ cap, cap = grownCap w l.length 0 5 := ⟨_, rfl⟩
  have g1 : l.length ≤ cap := by rw [hcap]; exact grownCap_ge _ _ _ _
  have g2 : cap ≤ maxLen := by rw [hcap]; exact grownCap_le_maxLen _ _ _ _ (by unfold maxLen; omega)
  rw [← hcap] at hr
  obtain ⟨R, hR⟩ : ∃ R, R = bytesRow ⟨l.toArray⟩ cap := ⟨_, rfl⟩
  have hRs : l.length ≤ R.size := by
    rw [hR]; unfold bytesRow
    simp [ByteArray.size]
  have hRa : ∀ j (hj : j < l.length), R[j]? = some (.int .u8 (l[j].toNat : Int)) := fun j hj => by
    rw [hR, bytesRow_at _ _ _ (by simpa using hj)]
    simp
  rw [← hR] at hr
  clear hR
  have hh : ∀ o : Obj, ((w.drew.alloc (.cells R 5 (R.size, R.size + 1))).alloc o).heap[w.heap.size]? = some (.cells R 5 (R.size, R.size + 1)) := fun o => by
    rw [Below.heap_alloc _ _ _ (by simp)]
    show (w.heap.push _)[w.heap.size]? = _
    simp
  refine ⟨_, cap, hr, ((Below.refl _ _).drew).alloc (Nat.le_refl _) _, by simp, ⟨by simp, by simp; omega, by omega, ?_, g1, g2, h, fun j hj => ?_, fun j hj => ?_⟩⟩
  · have e : w.heap.size + 1 = (w.drew.alloc (.cells R 5 (R.size, R.size + 1))).heap.size := by simp
    rw [e]
    exact World.cell?_alloc_at _ _ _ _ rfl
  · have := hh (.cells #[.slice (some ⟨w.heap.size, 0, none⟩) l.length cap] 111)
    simp only [World.cell?, this]
    exact hRa j hj
  · have := hh (.cells #[.slice (some ⟨w.heap.size, 0, none⟩) l.length cap] 111)
    simp only [World.frozen?, this]
    simp
    omega
set_option maxHeartbeats 2000000 in
set_option maxRecDepth 20000 in
theorem film_copy (h : FilmIs w p g c l) : Calls Tryz.prog 20 #[.pointer (some ⟨p, 0, none⟩)] w fun e w' => (∃ p' g' c', e = .returned (.pointer (some ⟨p', 0, none⟩)) ∧ w.heap.size ≤ p' ∧ w.heap.size ≤ g' ∧ FilmIs w' p' g' c' l) ∧ Below w.heap.size w w' := by
  have Hb := hide (bytes_any h)
  obtain ⟨W, cap, hr, HB, hs, hF⟩ := film_of w l h.few
  have HF := hide hF
  obtain ⟨S, hS⟩ : ∃ S : ByteArray, S = ⟨l.toArray⟩ := ⟨_, rfl⟩
  rw [← hS] at Hb hr
  clear hF h hS
  go_enter Tryz.func20, Tryz.ntmps20
  go_wp2_with fail
  refine (unhide Hb).mono ?_
  rintro e w2 ⟨rfl, hw2⟩
  subst hw2
  clear Hb
  go_wp2_with fail
  go_ret
  exact ⟨⟨w2.heap.size + 1, w2.heap.size, cap, by rw [← hs]; rfl, by omega, Nat.le_refl _, unhide HF⟩, HB.alloc (by omega) _⟩
end Go.Proofs.YtjjfdkdneibjbaaGreatDoor
/- Rows of the call's own, as lists of elements: made, appended to, written into, read. -/
namespace Go.Proofs.YtjjfdkdneibjbaaGreatDoor
open Go.RowKit

section
variable {α : Type}
def Enc.cells (E : Enc α) (x : α) : List Value := (List.range E.sz).map (E.cell x)
def Enc.flat (E : Enc α) (xs : List α) : List Value := xs.flatMap E.cells
variable {E : Enc α}
theorem Enc.cells_len (x : α) : (E.cells x).length = E.sz := by simp [Enc.cells]
theorem Enc.flat_len (xs : List α) : (E.flat xs).length = xs.length * E.sz := by
  unfold Enc.flat
  induction xs with
  | nil => simp
  | cons x xs ih => rw [List.flatMap_cons, List.length_append, ih, Enc.cells_len, List.length_cons, Nat.add_mul]; omega
theorem Enc.flat_app (xs ys : List α) : E.flat (xs ++ ys) = E.flat xs ++ E.flat ys := by simp [Enc.flat]
theorem Enc.flat_one (x : α) : E.flat [x] = E.cells x := by simp [Enc.flat]
theorem Enc.flat_at {xs : List α} {i j : Nat} (hi : i < xs.length) (hj : j < E.sz) : (E.flat xs)[i * E.sz + j]? = some (E.cell xs[i] j) := by
  induction xs generalizing i with
  | nil => simp at hi
  | cons x xs ih =>
    unfold Enc.flat
    rw [List.flatMap_cons]
    cases i with
    | zero =>
      rw [List.getElem?_append_left (by rw [Enc.cells_len]; omega)]
      simp [Enc.cells, hj]
    | succ i =>
      rw [List.getElem?_append_right (by rw [Enc.cells_len, Nat.add_mul]; omega), Enc.cells_len, show (i + 1) * E.sz + j - E.sz = i * E.sz + j by rw [Nat.add_mul]; omega]
      exact ih (by simpa using hi)
theorem Enc.flat_one' {xs : List α} (h : ∀ u ∈ E.flat xs, u.oneCell' = true) (x : α) (hx : x ∈ xs) : ∀ u ∈ E.cells x, u.oneCell' = true :=
  fun u hu => h u (List.mem_flatMap.2 ⟨x, hx, hu⟩)

/-- v is a row of the call's own (from block base on), of the elements xs. -/
def Own (E : Enc α) (e : TypeId) (w : World) (base : Nat) (v : Value) (xs : List α) : Prop := w.ownsRow base e E.sz v xs.length (E.flat xs)

variable {e : TypeId} {w w' : World} {base : Nat} {v : Value} {xs : List α}
theorem Own.nil (E : Enc α) (e : TypeId) (w : World) (base : Nat) : Own E e w base (.slice none 0 0) [] := World.ownsRow_nil _ _ _ _
theorem Own.lower (h : Own E e w base v xs) {base' : Nat} (hb : base' ≤ base) : Own E e w base' v xs := own_lower h hb
theorem Own.below (h : Own E e w base v xs) (hb : Below w.heap.size w w') : Own E e w' base v xs := own_below h hb
theorem Own.alloc (h : Own E e w base v xs) (o : Obj) : Own E e (w.alloc o) base v xs := World.ownsRow.alloc h o
theorem Own.drewN (h : Own E e w base v xs) (n : Nat) : Own E e (w.drewN n) base v xs := h
theorem Own.grown (h : Own E e w base v xs) {row : Option Nat} (hg : w.grownBy w' row) (hne : v.ownBlock = none ∨ v.ownBlock ≠ row) : Own E e w' base v xs := World.ownsRow.kept h hg hne
theorem Own.lt (h : Own E e w base v xs) : ∀ k, v.ownBlock = some k → base ≤ k ∧ k < w.heap.size := World.ownsRow.lt h
/-- The shape of the value. -/
theorem Own.shape (h : Own E e w base v xs) : (v = .slice none 0 0 ∧ xs = []) ∨ ∃ g cap, v = .slice (some ⟨g, 0, none⟩) xs.length cap ∧ base ≤ g ∧ g < w.heap.size ∧ xs.length ≤ cap ∧ cap ≤ maxLen := by
  rcases h.2 with ⟨h1, h2⟩ | ⟨g, cap, cur, h1, hb, hg, hnc, hm, _⟩
  · exact .inl ⟨h1, List.eq_nil_of_length_eq_zero h2⟩
  · exact .inr ⟨g, cap, h1, hb, (Array.getElem?_eq_some_iff.1 hg).1, hnc, hm⟩
theorem Own.sl (h : Own E e w base v xs) : ∃ A c, v = .slice A xs.length c ∧ Sl E w A xs.length c xs ∧ (∀ b off, A = some ⟨b, off, none⟩ → base ≤ b) := by
  rcases h.2 with ⟨rfl, h2⟩ | ⟨g, cap, cur, rfl, hb, hg, hnc, hm, hs, ht⟩
  · exact ⟨none, 0, by rw [h2], ⟨rfl, by omega, by omega, fun h => by omega⟩, fun _ _ h => by cases h⟩
  · refine ⟨_, _, rfl, ⟨rfl, hnc, hm, fun _ => ⟨g, 0, rfl, (Array.getElem?_eq_some_iff.1 hg).1, fun i hi j hj => ?_⟩⟩, fun b off e => by injection e with e; injection e with e; omega⟩
    have hlt : i * E.sz + j < xs.length * E.sz := by
      have : (i + 1) * E.sz ≤ xs.length * E.sz := Nat.mul_le_mul_right _ hi
      rw [Nat.add_mul] at this; omega
    have := World.ownsRow.cellAt h (0 + i * E.sz + j) (by omega)
    rw [this, Nat.zero_add, Enc.flat_at hi hj]
theorem Own.cell {b o n c : Nat} (h : Own E e w base (.slice (some ⟨b, o, none⟩) n c) xs) {i : Nat} (hi : i < xs.length) {j : Nat} (hj : j < E.sz) : w.cell? ⟨b, o + i * E.sz + j, none⟩ = some (E.cell xs[i] j) := by
  obtain ⟨A, c', hv, hs, _⟩ := h.sl
  injection hv with hv _ _
  obtain ⟨b', o', hb, _, hr⟩ := hs.2.2.2 (by omega)
  rw [hb] at hv
  injection hv with hv
  injection hv with h1 h2
  subst h1; subst h2
  exact hr i hi j hj
/-- A literal list lies in a new block. -/
theorem Own.lit (w : World) (cs : Array Value) (n : Nat) (hn : xs.length = n) (hcs : cs.toList = E.flat xs) (hm : n ≤ maxLen) (hb : base ≤ w.heap.size) : Own E e (w.alloc (.cells cs e)) base (.slice (some ⟨w.heap.size, 0, none⟩) n n) xs := by
  subst hn
  have hl : cs.size = xs.length * E.sz := by rw [← Array.length_toList, hcs, Enc.flat_len]
  have := World.ownsRow_lit (base := base) (e := e) (size := E.sz) w cs xs.length hb hm hl
  rw [hcs] at this
  exact this

variable {P : Program} {ops : Array Oper} {rest : List Oper} {o : Oper} {a : Act} {Q : Exit → Act → World → Prop}
/-- append(v, x): one element behind a row of the call's own. -/
theorem wpList_append_one (E : Enc α) (hgd : o.guard = none) (s y : Operand) (t : TypeId) (ho : o.op = .call { callee := .builtin .append, args := #[s, y], argTypes := #[t, t] })
    (base : Nat) (e : TypeId) (i : TypeInfo) (z : Value) (bytes : Nat) (ht : P.underlying t = some (.slice e)) (hi : P.info? e = some i) (hz : i.zero = some z)
    (hsize : i.size = E.sz) (hby : i.bytes = bytes) (hzs : z.cells.size = E.sz) (hsz : 0 < E.sz) (v : Value) (xs : List α) (hs : a.eval s = v) (w : World) (hown : Own E e w base v xs)
    (x : α) (cs : Array Value) (hcs : cs.toList = E.cells x) (hx : a.eval y = .slice (some ⟨w.heap.size, 0, none⟩) 1 1) (h1 : ∀ u ∈ cs.toList, u.oneCell' = true)
    (h63 : xs.length + 1 ≤ maxLen) (hbytes : (xs.length + 1) * bytes ≤ 140737488355328) (hbase : base ≤ w.heap.size)
    (h : ∀ v' w', Own E e w' base v' (xs ++ [x]) → (w.alloc (.cells cs e)).grownBy w' v.ownBlock → (v'.ownBlock = v.ownBlock ∨ v'.ownBlock = some (w.heap.size + 1)) → wpList P ops Q rest (a.put o.dst v') w') :
    wpList P ops Q (o :: rest) a (w.alloc (.cells cs e)) := by
  refine wpList_append_own_at _ hgd s y t ho base e i z E.sz bytes ht hi hz hsize hby hzs hsz v xs.length (E.flat xs) hs (World.ownsRow.alloc hown _) ⟨w.heap.size, 0, none⟩ 1 1 (E.cells x) hx (by rw [Enc.cells_len, Nat.one_mul]) (fun j u hj => ?_) (by rw [← hcs]; exact h1) h63 hbytes (by simp; omega) fun v' w' h1 h2 _ h4 => h v' w' ?_ h2 (by simpa using h4)
  · rw [← hcs] at hj
    rw [Go.WideShapes.add_plain, World.cell?_alloc_at _ _ _ _ rfl, Nat.zero_add]
    simpa using hj
  · unfold Own
    rw [List.length_append, Enc.flat_app, Enc.flat_one]
    exact h1
/-- append(v, l...): a list that is read behind a row of the call's own. -/
theorem wpList_append_sl (E : Enc α) (hgd : o.guard = none) (s y : Operand) (t : TypeId) (ho : o.op = .call { callee := .builtin .append, args := #[s, y], argTypes := #[t, t] })
    (base : Nat) (e : TypeId) (i : TypeInfo) (z : Value) (bytes : Nat) (ht : P.underlying t = some (.slice e)) (hi : P.info? e = some i) (hz : i.zero = some z)
    (hsize : i.size = E.sz) (hby : i.bytes = bytes) (hzs : z.cells.size = E.sz) (hsz : 0 < E.sz) (v : Value) (xs : List α) (hs : a.eval s = v) (w : World) (hown : Own E e w base v xs)
    (A : Option Addr) (n c : Nat) (ys : List α) (hy : a.eval y = .slice A n c) (hr : Sl E w A n c ys) (h1 : ∀ u ∈ E.flat ys, u.oneCell' = true)
    (h63 : xs.length + n ≤ maxLen) (hbytes : (xs.length + n) * bytes ≤ 140737488355328) (hbase : base ≤ w.heap.size)
    (h : ∀ v' w', Own E e w' base v' (xs ++ ys) → w.grownBy w' v.ownBlock → (v'.ownBlock = v.ownBlock ∨ v'.ownBlock = some w.heap.size) → wpList P ops Q rest (a.put o.dst v') w') :
    wpList P ops Q (o :: rest) a w := by
  have hn := hr.1
  rcases Nat.eq_zero_or_pos n with h0 | h0
  · subst h0
    have hys : ys = [] := List.eq_nil_of_length_eq_zero hn.symm
    subst hys
    rcases A with _ | ad
    · have hrun : (Builtin.append_ #[t, t] o.type #[v, .slice none 0 c]).run P w = .ok v w := by
        rcases hown.2 with ⟨rfl, _⟩ | ⟨g, cap, cur, rfl, _, _, hnc, _⟩
        · simp [Builtin.append_, run_underlying ht, sizeOf, typeInfo, hi, Builtin.lenOf, Builtin.firstCells]
        · simp [Builtin.append_, run_underlying ht, sizeOf, typeInfo, hi, Builtin.lenOf, Builtin.firstCells, hnc, storeCells]
      refine wpList_plain hgd fun K hK => ?_
      unfold Oper.wp execOp
      simp only [ho, resolve, invoke, builtin, Sem.run_bind, Sem.run_pure, Result.andThen_ok, List.map_toArray, List.map_cons, List.map_nil, hs, hy, hrun]
      exact hK _ _ (h v w (by simpa using hown) (World.grownBy.refl w _) (.inl rfl))
    · exact wpList_append_own_at _ hgd s y t ho base e i z E.sz bytes ht hi hz hsize hby hzs hsz v xs.length (E.flat xs) hs hown ad 0 c [] hy (by simp) (fun j u hj => by simp at hj) (by simp) h63 hbytes hbase fun v' w' h1 h2 _ h4 => h v' w' (by unfold Own; simpa using h1) h2 h4
  · obtain ⟨b, off, rfl, hb, hrd⟩ := hr.2.2.2 h0
    refine wpList_append_own_at _ hgd s y t ho base e i z E.sz bytes ht hi hz hsize hby hzs hsz v xs.length (E.flat xs) hs hown ⟨b, off, none⟩ n c (E.flat ys) hy (by rw [Enc.flat_len, hn]) (fun j u hj => ?_) h1 h63 hbytes hbase fun v' w' h1 h2 _ h4 => h v' w' ?_ h2 h4
    · have hjl : j < ys.length * E.sz := by rw [← Enc.flat_len]; exact (List.getElem?_eq_some_iff.1 hj).1
      have hd : j = j / E.sz * E.sz + j % E.sz := (Nat.div_add_mod' j E.sz).symm
      have hi' : j / E.sz < ys.length := (Nat.div_lt_iff_lt_mul hsz).2 hjl
      have hm' : j % E.sz < E.sz := Nat.mod_lt _ hsz
      rw [Go.WideShapes.add_plain]
      rw [hd, Enc.flat_at hi' hm'] at hj
      have := hrd _ hi' _ hm'
      rw [Nat.add_assoc, ← hd] at this
      rw [this, ← hj]
    · unfold Own
      rw [List.length_append, Enc.flat_app, ← hn]
      exact h1
/-- One cell of an element of a row is stored. -/
theorem Own.set {g n c : Nat} (h : Own E e w base (.slice (some ⟨g, 0, none⟩) n c) xs) {i : Nat} (hi : i < xs.length) {j : Nat} (hj : j < E.sz) (u : Value) (x : α) (hx : ∀ k, k < E.sz → E.cell x k = if k = j then u else E.cell xs[i] k) :
    Own E e (w.setCell ⟨g, i * E.sz + j, none⟩ u) base (.slice (some ⟨g, 0, none⟩) n c) (xs.set i x) := by
  have hn : n = xs.length := by
    obtain ⟨_, _, hv, _⟩ := h.sl
    injection hv
  subst hn
  have hlt : i * E.sz + j < xs.length * E.sz := by
    have : (i + 1) * E.sz ≤ xs.length * E.sz := Nat.mul_le_mul_right _ hi
    rw [Nat.add_mul] at this; omega
  have hst := World.ownsRow.stored h (i * E.sz + j) u
  unfold Own
  rw [List.length_set]
  have : E.flat (xs.set i x) = (E.flat xs).set (i * E.sz + j) u := by
    apply List.ext_getElem?
    intro k
    have hsz : 0 < E.sz := by omega
    by_cases hk : k < xs.length * E.sz
    · have hd : k = k / E.sz * E.sz + k % E.sz := (Nat.div_add_mod' k E.sz).symm
      have hi' : k / E.sz < xs.length := (Nat.div_lt_iff_lt_mul hsz).2 hk
      have hm' : k % E.sz < E.sz := Nat.mod_lt _ hsz
      have e1 := Enc.flat_at (E := E) (xs := xs.set i x) (i := k / E.sz) (j := k % E.sz) (by simpa using hi') hm'
      have e2 := Enc.flat_at (E := E) (xs := xs) (i := k / E.sz) (j := k % E.sz) hi' hm'
      rw [← hd] at e1 e2
      rw [e1, List.getElem?_set]
      by_cases hki : k / E.sz = i
      · subst hki
        rw [List.getElem_set_self, hx _ hm']
        by_cases hkj : k % E.sz = j
        · have : k / E.sz * E.sz + j = k := by rw [← hkj]; exact hd.symm
          rw [if_pos this, if_pos hkj, if_pos (by rw [Enc.flat_len]; omega)]
        · rw [if_neg hkj, if_neg (by intro h; apply hkj; rw [← h, Nat.mul_comm, Nat.mul_add_mod, Nat.mod_eq_of_lt hj]), e2]
      · rw [List.getElem_set_ne (fun h => hki h.symm), if_neg, e2]
        intro h
        apply hki
        rw [← h, Nat.mul_comm, Nat.mul_add_div hsz, Nat.div_eq_of_lt hj, Nat.add_zero]
    · rw [List.getElem?_eq_none (by rw [Enc.flat_len, List.length_set]; omega), List.getElem?_eq_none (by rw [List.length_set, Enc.flat_len]; omega)]
  rw [this]
  exact hst.1
theorem Own.frozen {g n c : Nat} (h : Own E e w base (.slice (some ⟨g, 0, none⟩) n c) xs) (j : Nat) : w.frozen? ⟨g, j, none⟩ = false := World.ownsRow.frozenAt (n := xs.length) (by
  have hn : n = xs.length := by
    obtain ⟨_, _, hv, _⟩ := h.sl
    injection hv
  subst hn
  exact h) j
end
end Go.Proofs.YtjjfdkdneibjbaaGreatDoor
/- Which blocks a call may change. -/
namespace Go.Proofs.YtjjfdkdneibjbaaGreatDoor
open Go.RowKit

/-- Of the blocks that were there only those of F are other ones. -/
structure Chg (F : Nat → Prop) (w w' : World) : Prop where
  os : w'.os = w.os
  tape : w'.tape = w.tape
  output : w'.output = w.output
  size : w.heap.size ≤ w'.heap.size
  block : ∀ k, k < w.heap.size → ¬ F k → w'.heap[k]? = w.heap[k]?
section
variable {F G : Nat → Prop} {a b c w w' : World}
theorem Chg.refl (F : Nat → Prop) (w : World) : Chg F w w := ⟨rfl, rfl, rfl, Nat.le_refl _, fun _ _ _ => rfl⟩
theorem Chg.trans (h : Chg F a b) (k : Chg F b c) : Chg F a c :=
  ⟨k.os.trans h.os, k.tape.trans h.tape, k.output.trans h.output, Nat.le_trans h.size k.size, fun i hi hf => (k.block i (Nat.lt_of_lt_of_le hi h.size) hf).trans (h.block i hi hf)⟩
theorem Chg.mono (h : Chg F a b) (hG : ∀ k, k < a.heap.size → F k → G k) : Chg G a b := ⟨h.os, h.tape, h.output, h.size, fun i hi hf => h.block i hi fun hF => hf (hG i hi hF)⟩
theorem Chg.of_below (h : Below a.heap.size a b) : Chg F a b := ⟨h.os, h.tape, h.output, h.size, fun i hi _ => h.block i hi⟩
theorem Chg.to_below (h : Chg F a b) {B : Nat} (hB : B ≤ a.heap.size) (hF : ∀ k, F k → B ≤ k) : Below B a b :=
  ⟨h.os, h.tape, h.output, h.size, fun i hi => h.block i (Nat.lt_of_lt_of_le hi hB) fun hf => Nat.lt_irrefl _ (Nat.lt_of_lt_of_le hi (hF i hf))⟩
theorem Chg.of_grown {row : Option Nat} (h : a.grownBy b row) (hs : a.heap.size ≤ b.heap.size) (hF : ∀ k, row = some k → F k) : Chg F a b :=
  ⟨h.os, h.tape, h.output, hs, fun i hi hf => h.block i hi fun e => hf (hF i e.symm)⟩
end
end Go.Proofs.YtjjfdkdneibjbaaGreatDoor
/- A film behind a write: its bytes; what else changes. -/
namespace Go.Proofs.YtjjfdkdneibjbaaGreatDoor
open Go.RowKit
variable {w : World} {p g c : Nat} {l : List UInt8}

theorem setCells_size (b : Nat) : ∀ (vs : List Value) (o : Nat) (w : World), (w.setCells b o vs).heap.size = w.heap.size
  | [], _, _ => rfl
  | v :: vs, o, w => by rw [World.setCells, setCells_size b vs (o + 1)]; simp [World.setCell]
theorem setCells_heap (b : Nat) (k : Nat) (hk : k ≠ b) : ∀ (vs : List Value) (o : Nat) (w : World), (w.setCells b o vs).heap[k]? = w.heap[k]?
  | [], _, _ => rfl
  | v :: vs, o, w => by rw [World.setCells, setCells_heap b k hk vs (o + 1)]; exact Below.heap_setCell _ _ _ _ hk
theorem setCells_chg (b : Nat) : ∀ (vs : List Value) (o : Nat) (w : World), Chg (fun k => k = b) w (w.setCells b o vs)
  | [], _, w => Chg.refl _ w
  | v :: vs, o, w => by
    rw [World.setCells]
    exact Chg.trans (b := w.setCell ⟨b, o, none⟩ v) ⟨rfl, rfl, rfl, by simp [World.setCell], fun k _ hk => Below.heap_setCell _ _ _ _ hk⟩ (setCells_chg b vs (o + 1) _)
/-- The bytes behind a write. -/
def layL (l : List UInt8) (a : Nat) (s : ByteArray) : List UInt8 := l.take a ++ (s.data.toList ++ l.drop (a + s.size))
theorem layL_len {a : Nat} {s : ByteArray} (ha : a + s.size ≤ l.length) : (layL l a s).length = l.length := by
  have hz : s.data.toList.length = s.size := by rw [Array.length_toList]; rfl
  unfold layL
  rw [List.length_append, List.length_append, List.length_take, List.length_drop, hz]
  omega
theorem layL_get {a : Nat} {s : ByteArray} (ha : a + s.size ≤ l.length) (j : Nat) : (layL l a s)[j]? = if a ≤ j ∧ j < a + s.size then s.data.toList[j - a]? else l[j]? := by
  have hz : s.data.toList.length = s.size := by rw [Array.length_toList]; rfl
  unfold layL
  rw [List.getElem?_append, List.length_take, List.getElem?_append, hz]
  split
  · rw [if_neg (by omega), List.getElem?_take, if_pos (by omega)]
  · split
    · rw [if_pos (by omega)]; congr 1; omega
    · rw [if_neg (by omega), List.getElem?_drop]; congr 1; omega
theorem FilmIs.lay (h : FilmIs w p g c l) (a : Nat) (s : ByteArray) (ha : a + s.size ≤ l.length) : FilmIs (w.setCells g a (cellsU s)) p g c (layL l a s) := by
  have hz : s.data.toList.length = s.size := by rw [Array.length_toList]; rfl
  have hv : (cellsU s).length = s.size := by unfold cellsU; rw [List.length_map, hz]
  have hl := layL_len ha
  refine ⟨by rw [setCells_size]; exact h.lp, by rw [setCells_size]; exact h.lg, h.ne, ?_, by rw [hl]; exact h.le, h.cap, by rw [hl]; exact h.few, fun j hj => ?_, fun j hj => ?_⟩
  · rw [hl, World.cell?_setCells_out _ _ _ _ _ (fun e => absurd e h.ne)]
    exact h.sl
  · have hj' : j < l.length := by rw [← hl]; exact hj
    by_cases hin : a ≤ j ∧ j < a + s.size
    · obtain ⟨i, rfl⟩ : ∃ i, j = a + i := ⟨j - a, by omega⟩
      have hi : i < s.data.toList.length := by omega
      rw [World.cell?_setCells_in g (cellsU s) a w (fun k hk => by rw [h.cell (a + k) (by omega)]; rfl) i (by omega)]
      have e : (layL l a s)[a + i]'hj = s.data.toList[i]'hi := by
        have := layL_get ha (a + i)
        rw [List.getElem?_eq_getElem hj, if_pos (by omega), show a + i - a = i by omega, List.getElem?_eq_getElem hi] at this
        exact Option.some.inj this
      rw [e]
      simp [cellsU]
    · rw [World.cell?_setCells_out _ _ _ _ _ (fun _ _ => by rw [hv]; show j < a ∨ a + s.size ≤ j; omega), h.cell j hj']
      have e : (layL l a s)[j]'hj = l[j]'hj' := by
        have := layL_get ha j
        rw [List.getElem?_eq_getElem hj, if_neg hin, List.getElem?_eq_getElem hj'] at this
        exact Option.some.inj this
      rw [e]
  · rw [World.frozen?_setCells]
    exact h.free j (by rw [← hl]; exact hj)
end Go.Proofs.YtjjfdkdneibjbaaGreatDoor
