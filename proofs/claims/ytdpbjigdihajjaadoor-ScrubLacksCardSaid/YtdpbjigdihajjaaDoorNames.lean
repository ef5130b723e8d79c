/- Names of blocks: two letters, or one, behind 'block-'. -/
import Derived.Test.YtdpbjigdihajjaaDoorPoolA
import Derived.Laws.BytesArg
namespace Go.Proofs.YtdpbjigdihajjaaDoor
open Go.RowKit

theorem convS2 (W : World) (a b : Int) : (convert 28 9 (.slice (some ⟨W.heap.size, 0, none⟩) 2 2)).run Tryd.prog (W.alloc (.cells #[.int .u8 a, .int .u8 b] 5)) = .ok (.string (strOfNums [a, b])) (W.alloc (.cells #[.int .u8 a, .int .u8 b] 5)) :=
  run_convert_bytes_arg _ _ _ Tryd.underlying28 Tryd.underlying5 _ 0 2 2 [a, b] rfl (fun i hi => by
    rw [World.cell?_alloc_at _ _ _ _ rfl]
    rcases (show i = 0 ∨ i = 1 by omega) with rfl | rfl <;> rfl) _ Tryd.underlying9
/-- block-.. -/
def nameS (a b : Int) : ByteArray := (⟨#[98, 108, 111, 99, 107, 45]⟩ : ByteArray) ++ strOfNums [a, b]
theorem nameS_data (a b : Int) : (nameS a b).data = #[98, 108, 111, 99, 107, 45, UInt8.ofNat a.toNat, UInt8.ofNat b.toNat] := by
  unfold nameS
  rw [ByteArray.data_append]
  unfold strOfNums
  rfl
theorem nameS_size (a b : Int) : (nameS a b).size = 8 := by
  show (nameS a b).data.size = 8
  rw [nameS_data]
  rfl
theorem nameS_zero (a b : Int) : zeroB (nameS a b) = false := by
  unfold zeroB
  rw [nameS_data]
  simp
theorem nameS_inj {a b c d : Int} (ha : 0 ≤ a ∧ a < 256) (hb : 0 ≤ b ∧ b < 256) (hc : 0 ≤ c ∧ c < 256) (hd : 0 ≤ d ∧ d < 256) (h : nameS a b = nameS c d) : a = c ∧ b = d := by
  have e := congrArg ByteArray.data h
  rw [nameS_data, nameS_data] at e
  have h1 := congrArg (fun b : Array UInt8 => b.toList[6]?) e
  have h2 := congrArg (fun b : Array UInt8 => b.toList[7]?) e
  simp at h1 h2
  have a1 := congrArg UInt8.toNat h1
  have a2 := congrArg UInt8.toNat h2
  simp at a1 a2
  omega
end Go.Proofs.YtdpbjigdihajjaaDoor
