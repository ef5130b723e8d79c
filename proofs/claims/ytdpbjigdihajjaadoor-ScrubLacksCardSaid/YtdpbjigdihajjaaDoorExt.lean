/- Extents, as they lie. -/
import Derived.Test.YtdpbjigdihajjaaDoorOwn
namespace Go.Proofs.YtdpbjigdihajjaaDoor
open Go.RowKit

structure Ext where
  from_ : Int
  n : Int
  id : Int
def eE : Enc Ext := ⟨3, fun p j => match j with | 0 => .int .i64 p.from_ | 1 => .int .i64 p.n | _ => .int .i64 p.id⟩
theorem eE_one (L : List Ext) : ∀ u ∈ eE.flat L, u.oneCell' = true := by
  intro u hu
  obtain ⟨x, _, hx⟩ := List.mem_flatMap.1 hu
  simp only [Enc.cells, eE, List.mem_map, List.mem_range] at hx
  obtain ⟨j, hj, rfl⟩ := hx
  rcases (show j = 0 ∨ j = 1 ∨ j = 2 by omega) with rfl | rfl | rfl <;> rfl
theorem Tryd.infoE : ((Tryd.prog.info? 81).map fun i => (i.zero, i.size, i.bytes)) = some (some (.agg #[.int .i64 0, .int .i64 0, .int .i64 0]), 3, 24) := by kernel_rfl
end Go.Proofs.YtdpbjigdihajjaaDoor
