/- Words that all walks of this seat use: hidden facts, worlds below a bound, lists that are read off a row of cells. -/
import Derived.Test.YtdpbjigdihajjaaDoorProg
import Derived.WalkKit
import Derived.WalkSpells
import Derived.WalkLawsBesides
import Derived.Deep.QuietTactic
import Derived.BigQuiet
import Derived.Maps.AppendAt
namespace Go.Proofs.YtdpbjigdihajjaaDoor
open Go.RowKit

theorem hide {p : Prop} (h : p) : Hid p := h
theorem unhide {p : Prop} (h : Hid p) : p := h
theorem below_drewN {B : Nat} {a w : World} (h : Below B a w) (n : Nat) : Below B a (w.drewN n) := ⟨h.os, h.tape, h.output, h.size, h.block⟩
theorem bcell {W w1 : World} {B : Nat} (hb : Below B W w1) : (∀ b o, b < B → w1.cell? ⟨b, o, none⟩ = W.cell? ⟨b, o, none⟩) ∧ (∀ b o, b < B → w1.frozen? ⟨b, o, none⟩ = W.frozen? ⟨b, o, none⟩) :=
  ⟨fun b o h => hb.cell (p := ⟨b, o, none⟩) h, fun b o h => hb.frozen (p := ⟨b, o, none⟩) h⟩

theorem own_lower {w : World} {base base' : Nat} {e : TypeId} {size n : Nat} {v : Value} {xs : List Value} (h : w.ownsRow base e size v n xs) (hb : base' ≤ base) : w.ownsRow base' e size v n xs := by
  obtain ⟨h1, h2⟩ := h
  refine ⟨h1, ?_⟩
  rcases h2 with h2 | ⟨g, cap, cur, rfl, hg, r⟩
  · exact .inl h2
  · exact .inr ⟨g, cap, cur, rfl, Nat.le_trans hb hg, r⟩
theorem own_below {w w1 : World} {base : Nat} {e : TypeId} {size n : Nat} {v : Value} {xs : List Value} (h : w.ownsRow base e size v n xs) (hb : Below w.heap.size w w1) : w1.ownsRow base e size v n xs := by
  obtain ⟨h1, h2⟩ := h
  refine ⟨h1, ?_⟩
  rcases h2 with h2 | ⟨g, cap, cur, rfl, hg, hh, r⟩
  · exact .inl h2
  · exact .inr ⟨g, cap, cur, rfl, hg, (hb.block g (Array.getElem?_eq_some_iff.1 hh).1).trans hh, r⟩
theorem ret_int {k : IntKind} {a b : Int} (h : a = b) : Ending.returned (.int k a) = .returned (.int k b) := by rw [h]
theorem ret_bool {a b : Bool} (h : a = b) : Ending.returned (.bool a) = .returned (.bool b) := by rw [h]

/-- How an element lies in cells. -/
structure Enc (α : Type) where
  sz : Nat
  cell : α → Nat → Value

/-- The elements xs stand from cell off of block b on. -/
def Rd {α : Type} (E : Enc α) (w : World) (b off : Nat) (xs : List α) : Prop :=
  ∀ i (hi : i < xs.length) j, j < E.sz → w.cell? ⟨b, off + i * E.sz + j, none⟩ = some (E.cell xs[i] j)

section
variable {α : Type} {E : Enc α} {w w' : World} {b off : Nat} {xs : List α}
theorem Rd.below (h : Rd E w b off xs) {B : Nat} (hb : Below B w w') (hlt : b < B) : Rd E w' b off xs :=
  fun i hi j hj => by rw [(bcell hb).1 _ _ hlt]; exact h i hi j hj
theorem Rd.drop (h : Rd E w b off xs) (m : Nat) : Rd E w b (off + m * E.sz) (xs.drop m) := by
  intro i hi j hj
  rw [List.length_drop] at hi
  have := h (m + i) (by omega) j hj
  rw [show off + m * E.sz + i * E.sz + j = off + (m + i) * E.sz + j by rw [Nat.add_mul]; omega, this, List.getElem_drop]
end

/-- The slice value .slice A n c reads as xs. -/
def Sl {α : Type} (E : Enc α) (w : World) (A : Option Addr) (n c : Nat) (xs : List α) : Prop :=
  n = xs.length ∧ n ≤ c ∧ c ≤ 9223372036854775807 ∧ (0 < n → ∃ b off, A = some ⟨b, off, none⟩ ∧ b < w.heap.size ∧ Rd E w b off xs)

section
variable {α : Type} {E : Enc α} {w w' : World} {A : Option Addr} {n c : Nat} {xs : List α}
theorem Sl.below (h : Sl E w A n c xs) (hb : Below w.heap.size w w') : Sl E w' A n c xs :=
  ⟨h.1, h.2.1, h.2.2.1, fun hn => by
    obtain ⟨b, off, e, hlt, hr⟩ := h.2.2.2 hn
    exact ⟨b, off, e, Nat.lt_of_lt_of_le hlt hb.size, hr.below hb hlt⟩⟩
theorem Sl.nil_ (E : Enc α) (w : World) : Sl E w none 0 0 [] := ⟨rfl, Nat.le_refl _, by omega, fun h => by omega⟩
end

def eI : Enc Int := ⟨1, fun x _ => .int .i64 x⟩

end Go.Proofs.YtdpbjigdihajjaaDoor
