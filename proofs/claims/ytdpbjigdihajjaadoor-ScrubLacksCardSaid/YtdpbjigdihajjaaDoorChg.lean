/- Which blocks a call may change. -/
import Derived.Test.YtdpbjigdihajjaaDoorOwn
namespace Go.Proofs.YtdpbjigdihajjaaDoor
open Go.RowKit

/-- Of the blocks that were there only those of F are other ones. -/
structure Chg (F : Nat → Prop) (w w' : World) : Prop where
  os : w'.os = w.os
  tape : w'.tape = w.tape
  output : w'.output = w.output
  size : w.heap.size ≤ w'.heap.size
  block : ∀ k, k < w.heap.size → ¬ F k → w'.heap[k]? = w.heap[k]?
section
variable {F G : Nat → Prop} {a b c w w' : World}
theorem Chg.refl (F : Nat → Prop) (w : World) : Chg F w w := ⟨rfl, rfl, rfl, Nat.le_refl _, fun _ _ _ => rfl⟩
theorem Chg.trans (h : Chg F a b) (k : Chg F b c) : Chg F a c :=
  ⟨k.os.trans h.os, k.tape.trans h.tape, k.output.trans h.output, Nat.le_trans h.size k.size, fun i hi hf => (k.block i (Nat.lt_of_lt_of_le hi h.size) hf).trans (h.block i hi hf)⟩
theorem Chg.mono (h : Chg F a b) (hG : ∀ k, k < a.heap.size → F k → G k) : Chg G a b := ⟨h.os, h.tape, h.output, h.size, fun i hi hf => h.block i hi fun hF => hf (hG i hi hF)⟩
theorem Chg.of_below (h : Below a.heap.size a b) : Chg F a b := ⟨h.os, h.tape, h.output, h.size, fun i hi _ => h.block i hi⟩
theorem Chg.to_below (h : Chg F a b) {B : Nat} (hB : B ≤ a.heap.size) (hF : ∀ k, F k → B ≤ k) : Below B a b :=
  ⟨h.os, h.tape, h.output, h.size, fun i hi => h.block i (Nat.lt_of_lt_of_le hi hB) fun hf => Nat.lt_irrefl _ (Nat.lt_of_lt_of_le hi (hF i hf))⟩
theorem Chg.of_grown {row : Option Nat} (h : a.grownBy b row) (hs : a.heap.size ≤ b.heap.size) (hF : ∀ k, row = some k → F k) : Chg F a b :=
  ⟨h.os, h.tape, h.output, hs, fun i hi hf => h.block i hi fun e => hf (hF i e.symm)⟩
end
end Go.Proofs.YtdpbjigdihajjaaDoor
