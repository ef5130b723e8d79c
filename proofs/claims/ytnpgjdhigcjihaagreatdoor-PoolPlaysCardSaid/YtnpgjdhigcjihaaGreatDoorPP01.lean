/- Joined texts: Lib, Print. -/
import Derived.Test.YtnpgjdhigcjihaaGreatDoorProg
import Derived.WalkKit
import Derived.WalkSpells
import Derived.WalkLawsBesides
import Derived.Deep.QuietTactic
import Derived.BigQuiet
import Derived.Maps.AppendAt
/- Words that all walks of this seat use: hidden facts, worlds below a bound, lists that are read off a row of cells. -/
namespace Go.Proofs.YtnpgjdhigcjihaaGreatDoor
open Go.RowKit

theorem hide {p : Prop} (h : p) : Hid p := h
theorem unhide {p : Prop} (h : Hid p) : p := h
theorem below_drewN {B : Nat} {a w : World} (h : Below B a w) (n : Nat) : Below B a (w.drewN n) := ⟨h.os, h.tape, h.output, h.size, h.block⟩
theorem bcell {W w1 : World} {B : Nat} (hb : Below B W w1) : (∀ b o, b < B → w1.cell? ⟨b, o, none⟩ = W.cell? ⟨b, o, none⟩) ∧ (∀ b o, b < B → w1.frozen? ⟨b, o, none⟩ = W.frozen? ⟨b, o, none⟩) :=
  ⟨fun b o h => hb.cell (p := ⟨b, o, none⟩) h, fun b o h => hb.frozen (p := ⟨b, o, none⟩) h⟩

theorem own_lower {w : World} {base base' : Nat} {e : TypeId} {size n : Nat} {v : Value} {xs : List Value} (h : w.ownsRow base e size v n xs) (hb : base' ≤ base) : w.ownsRow base' e size v n xs := by
  obtain ⟨h1, h2⟩ := h
  refine ⟨h1, ?_⟩
  rcases h2 with h2 | ⟨g, cap, cur, rfl, hg, r⟩
  · exact .inl h2
  · exact .inr ⟨g, cap, cur, rfl, Nat.le_trans hb hg, r⟩
theorem own_below {w w1 : World} {base : Nat} {e : TypeId} {size n : Nat} {v : Value} {xs : List Value} (h : w.ownsRow base e size v n xs) (hb : Below w.heap.size w w1) : w1.ownsRow base e size v n xs := by
  obtain ⟨h1, h2⟩ := h
  refine ⟨h1, ?_⟩
  rcases h2 with h2 | ⟨g, cap, cur, rfl, hg, hh, r⟩
  · exact .inl h2
  · exact .inr ⟨g, cap, cur, rfl, hg, (hb.block g (Array.getElem?_eq_some_iff.1 hh).1).trans hh, r⟩
theorem ret_int {k : IntKind} {a b : Int} (h : a = b) : Ending.returned (.int k a) = .returned (.int k b) := by rw [h]
theorem ret_bool {a b : Bool} (h : a = b) : Ending.returned (.bool a) = .returned (.bool b) := by rw [h]

/-- How an element lies in cells. -/
structure Enc (α : Type) where
  sz : Nat
  cell : α → Nat → Value

/-- The elements xs stand from cell off of block b on. -/
def Rd {α : Type} (E : Enc α) (w : World) (b off : Nat) (xs : List α) : Prop :=
  ∀ i (hi : i < xs.length) j, j < E.sz → w.cell? ⟨b, off + i * E.sz + j, none⟩ = some (E.cell xs[i] j)

section
variable {α : Type} {E : Enc α} {w w' : World} {b off : Nat} {xs : List α}
theorem Rd.below (h : Rd E w b off xs) {B : Nat} (hb : Below B w w') (hlt : b < B) : Rd E w' b off xs :=
  fun i hi j hj => by rw [(bcell hb).1 _ _ hlt]; exact h i hi j hj
theorem Rd.drop (h : Rd E w b off xs) (m : Nat) : Rd E w b (off + m * E.sz) (xs.drop m) := by
  intro i hi j hj
  rw [List.length_drop] at hi
  have := h (m + i) (by omega) j hj
  rw [show off + m * E.sz + i * E.sz + j = off + (m + i) * E.sz + j by rw [Nat.add_mul]; omega, this, List.getElem_drop]
end

/-- The slice value .slice A n c reads as xs. -/
def Sl {α : Type} (E : Enc α) (w : World) (A : Option Addr) (n c : Nat) (xs : List α) : Prop :=
  n = xs.length ∧ n ≤ c ∧ c ≤ 9223372036854775807 ∧ (0 < n → ∃ b off, A = some ⟨b, off, none⟩ ∧ b < w.heap.size ∧ Rd E w b off xs)

section
variable {α : Type} {E : Enc α} {w w' : World} {A : Option Addr} {n c : Nat} {xs : List α}
theorem Sl.below (h : Sl E w A n c xs) (hb : Below w.heap.size w w') : Sl E w' A n c xs :=
  ⟨h.1, h.2.1, h.2.2.1, fun hn => by
    obtain ⟨b, off, e, hlt, hr⟩ := h.2.2.2 hn
    exact ⟨b, off, e, Nat.lt_of_lt_of_le hlt hb.size, hr.below hb hlt⟩⟩
theorem Sl.nil_ (E : Enc α) (w : World) : Sl E w none 0 0 [] := ⟨rfl, Nat.le_refl _, by omega, fun h => by omega⟩
end

def eI : Enc Int := ⟨1, fun x _ => .int .i64 x⟩

end Go.Proofs.YtnpgjdhigcjihaaGreatDoor
/- Walks of package print: Turn, Mix, Of. -/
namespace Go.Proofs.YtnpgjdhigcjihaaGreatDoor
open Go.RowKit

def turnI (x : Int) : Int := bits .or .u32 (x * 32 % 4294967296) (x / 134217728)
def mixI (a b : Int) : Int := bits .xor .u32 (turnI a) b * 2654435761 % 4294967296
theorem wrap_bd (n : Int) : 0 ≤ IntKind.u32.wrap n ∧ IntKind.u32.wrap n < 4294967296 := by
  rw [IntKind.wrap_u32]; omega
theorem turn_bd (x : Int) : 0 ≤ turnI x ∧ turnI x < 4294967296 := wrap_bd _
theorem mix_bd (a b : Int) : 0 ≤ mixI a b ∧ mixI a b < 4294967296 := by unfold mixI; omega
theorem turn_any (x : Int) (w : World) (_ : 0 ≤ x) (_ : x < 4294967296) :
    Calls Tryz.prog 115 #[.int .u32 x, .int .i64 5] w fun e w' => e = .returned (.int .u32 (turnI x)) ∧ w' = w := by
  have hb : bits .and .u64 5 31 = 5 := by kernel_rfl
  go_enter Tryz.func115, Tryz.ntmps115
  go_wp2
  go_ret
  exact ⟨rfl, rfl⟩
theorem mix_any (a b : Int) (w : World) (h0 : 0 ≤ a) (h1 : a < 4294967296) :
    Calls Tryz.prog 84 #[.int .u32 a, .int .u32 b] w fun e w' => e = .returned (.int .u32 (mixI a b)) ∧ w' = w := by
  obtain ⟨t, ht⟩ : ∃ t, t = turnI a := ⟨_, rfl⟩
  have hm : mixI a b = bits .xor .u32 t b * 2654435761 % 4294967296 := by rw [ht]; rfl
  rw [hm]
  have hx : 0 ≤ bits .xor .u32 t b ∧ bits .xor .u32 t b < 4294967296 := wrap_bd _
  have hx0 := hx.1
  have hx1 := hx.2
  have Ht := hide ht
  clear ht hm hx
  go_enter Tryz.func84, Tryz.ntmps84
  go_wp2_with (go_at_call 115; refine (turn_any a w h0 h1).mono ?_; rintro e w' ⟨he, hw⟩; subst he; subst hw; rw [← unhide Ht])
  go_ret
  exact ⟨rfl, rfl⟩
/-- The fingerprint of the first so many bytes, on the way. -/
def prL (l : List UInt8) : Int := l.foldl (fun x b => mixI x (b.toNat : Int)) 2166136261
/-- A text's fingerprint. -/
def ofI (s : ByteArray) : Int := mixI (prL s.data.toList) (s.size : Int)
theorem ofL_bd (l : List UInt8) : 0 ≤ prL l ∧ prL l < 4294967296 := by
  unfold prL
  suffices h : ∀ (l : List UInt8) (x : Int), 0 ≤ x ∧ x < 4294967296 → 0 ≤ l.foldl (fun x b => mixI x (b.toNat : Int)) x ∧ l.foldl (fun x b => mixI x (b.toNat : Int)) x < 4294967296 from h l _ (by omega)
  intro l
  induction l with
  | nil => exact fun x h => h
  | cons a l ih => exact fun x _ => ih _ (mix_bd _ _)
theorem ofI_bd (s : ByteArray) : 0 ≤ ofI s ∧ ofI s < 4294967296 := mix_bd _ _
theorem prL_snoc (l : List UInt8) (b : UInt8) : prL (l ++ [b]) = mixI (prL l) (b.toNat : Int) := by simp [prL]
theorem take_snoc (s : ByteArray) (k : Nat) (h : k < s.size) : s.data.toList.take (k + 1) = s.data.toList.take k ++ [s[k]] := by
  rw [List.take_succ_eq_append_getElem (by simpa using h)]; rfl
set_option maxHeartbeats 1000000 in
theorem pof_any (s : ByteArray) (w : World) (hs : s.size ≤ 1000000) :
    Calls Tryz.prog 40 #[.string s] w fun e w' => e = .returned (.int .u32 (ofI s)) ∧ w' = w := by
  go_enter Tryz.func40, Tryz.ntmps40
  go_wp2_with fail
  go_loop [3, 7] (fun x i => ∃ (k : Nat) (z : Int), k ≤ s.size ∧ i = .int .i64 k ∧ x = .int .u32 z ∧ z = prL (s.data.toList.take k)) (fun _ i => s.size - (intOf i).toNat)
  case atStart => exact ⟨0, 2166136261, Nat.zero_le _, rfl, rfl, rfl⟩
  case round =>
    obtain ⟨k, z, hk, rfl, rfl, hz⟩ := hrel
    have hb := ofL_bd (s.data.toList.take k)
    rw [← hz] at hb
    have hb0 := hb.1
    have hb1 := hb.2
    have Hz := hide hz
    clear hz hb
    by_cases hlt : k < s.size
    · have Hsn := hide (take_snoc s k hlt)
      go_wp2_with (go_at_call 84; refine (mix_any z _ w hb0 hb1).mono ?_; rintro e w' ⟨he, hw⟩; subst he; subst hw)
      go_round
      case rel => exact ⟨k + 1, _, by omega, by go_num, rfl, by rw [unhide Hsn, prL_snoc, ← unhide Hz, Int.emod_eq_of_lt (by omega) (by have := s[k].toNat_lt; omega)]⟩
      case measure => simp [intOf]; omega
    · obtain rfl : k = s.size := by omega
      have Hof := hide (show ofI s = mixI z (s.size : Int) by
        unfold ofI
        rw [unhide Hz, List.take_of_length_le (by simp)])
      go_wp2_with (go_at_call 84; refine (mix_any z _ w hb0 hb1).mono ?_; rintro e w' ⟨he, hw⟩; subst he; subst hw)
      go_ret
      exact ⟨by rw [unhide Hof]; rfl, rfl⟩
end Go.Proofs.YtnpgjdhigcjihaaGreatDoor
