/- Points, as they lie. -/
import Derived.Test.YtdpbjigdihajjaaDoorLib
namespace Go.Proofs.YtdpbjigdihajjaaDoor
open Go.RowKit

structure Pt where
  id : Int
  kind : Int
  day : Int
  eA : Option Addr
  eN : Nat
  eC : Nat
def ePt : Enc Pt := ⟨4, fun p j => match j with | 0 => .int .i64 p.id | 1 => .int .i64 p.kind | 2 => .int .i64 p.day | _ => .slice p.eA p.eN p.eC⟩

theorem Rd.pt {w : World} {b off : Nat} {ps : List Pt} (h : Rd ePt w b off ps) {i : Nat} (hi : i < ps.length) :
    w.cell? ⟨b, off + i * 4, none⟩ = some (.int .i64 ps[i].id) ∧ w.cell? ⟨b, off + i * 4 + 1, none⟩ = some (.int .i64 ps[i].kind) ∧
    w.cell? ⟨b, off + i * 4 + 2, none⟩ = some (.int .i64 ps[i].day) ∧ w.cell? ⟨b, off + i * 4 + 3, none⟩ = some (.slice ps[i].eA ps[i].eN ps[i].eC) :=
  ⟨h i hi 0 (by decide), h i hi 1 (by decide), h i hi 2 (by decide), h i hi 3 (by decide)⟩
end Go.Proofs.YtdpbjigdihajjaaDoor
