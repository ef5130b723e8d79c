/- Lists of numbers: what the program says of their type. -/
import Derived.Test.YtdpbjigdihajjaaDoorOwn
namespace Go.Proofs.YtdpbjigdihajjaaDoor
open Go.RowKit

theorem Tryd.infoIn : (Tryd.prog.info? 3).map (fun i => (i.zero, i.size, i.bytes)) = some (some (.int .i64 0), 1, 8) := by kernel_rfl
theorem one_int (n : Int) : ∀ u ∈ (#[Value.int .i64 n] : Array Value).toList, u.oneCell' = true := by
  intro u hu
  simp at hu
  subst hu
  rfl

theorem flat_ints (L : List Int) : eI.flat L = L.map (Value.int .i64) := by
  unfold Enc.flat
  induction L with
  | nil => rfl
  | cons x L ih => rw [List.flatMap_cons, ih]; rfl
end Go.Proofs.YtdpbjigdihajjaaDoor
