/-
  DERIVED. GIVEN WITH THE SEED: THE CARDS: each row of YtdpbjigdihajjaaDoorRows.lean that lists a variable, with what it lists TIED to the program's text (the seventh form; the later family's looks); each row that meets fmt, with fmt's text TOLD by the authors' own Lean function (tested against real Go, not proved from fmt's source: count such statements apart). THE CARD IS WHAT COUNTS. Prove the row's statement (the work); the ties are given (YtdpbjigdihajjaaDoorTie.lean); close each card by the builder's one call (the guide's Derived/Test/ToyasCard.lean, 'card_holds'). Laid BY PROGRAM, IN A SANDBOX (cutbox-door.mjs). By AI agents, Wed Nov 11 2026. No macro, syntax, notation, axiom, sorry.
-/
import Derived.Test.YtdpbjigdihajjaaDoorRows
import GoSem.ClaimSeven
namespace Go.Proofs.YtdpbjigdihajjaaDoor
namespace Rows

/-- THE TIED CARD OF 'emulsionlaw9.PoolFull'. -/
def poolFullCard : Claim7 := { stood := { row := poolFullRow, standIns := [], harness := (true, "ec4cc6578242a44458bb9890e1e817aeceeed1b125690987ac2befb503a77a60"), looks := false }, kinds := [], alts := [], laidByText := true, laidKinds := [.data, .pinned], laidTests := true, laidLooks := .later }
def PoolFullCardSaid : Prop := Claim7.holds Tryd.pinned (.plain (OpenSpec.ofChange poolFullSpec)) poolFullCard

/-- THE TIED CARD OF 'emulsionlaw9.PoolOnce'. -/
def poolOnceCard : Claim7 := { stood := { row := poolOnceRow, standIns := [], harness := (true, "ec4cc6578242a44458bb9890e1e817aeceeed1b125690987ac2befb503a77a60"), looks := false }, kinds := [], alts := [], laidByText := true, laidKinds := [.data, .pinned], laidTests := true, laidLooks := .later }
def PoolOnceCardSaid : Prop := Claim7.holds Tryd.pinned (.plain (OpenSpec.ofChange poolOnceSpec)) poolOnceCard

/-- THE TIED CARD OF 'emulsionlaw21.ScrubRight'. -/
def scrubRightCard : Claim7 := { stood := { row := scrubRightRow, standIns := [], harness := (true, "ec4cc6578242a44458bb9890e1e817aeceeed1b125690987ac2befb503a77a60"), looks := false }, kinds := [], alts := [], laidByText := true, laidKinds := [.data, .pinned], laidTests := true, laidLooks := .later }
def ScrubRightCardSaid : Prop := Claim7.holds Tryd.pinned (.plain (OpenSpec.ofChange scrubRightSpec)) scrubRightCard

/-- THE TIED CARD OF 'emulsionlaw21.ScrubMends'. -/
def scrubMendsCard : Claim7 := { stood := { row := scrubMendsRow, standIns := [], harness := (true, "ec4cc6578242a44458bb9890e1e817aeceeed1b125690987ac2befb503a77a60"), looks := false }, kinds := [], alts := [], laidByText := true, laidKinds := [.data, .pinned], laidTests := true, laidLooks := .later }
def ScrubMendsCardSaid : Prop := Claim7.holds Tryd.pinned (.plain (OpenSpec.ofChange scrubMendsSpec)) scrubMendsCard

/-- THE TIED CARD OF 'emulsionlaw21.ScrubLacks'. -/
def scrubLacksCard : Claim7 := { stood := { row := scrubLacksRow, standIns := [], harness := (true, "ec4cc6578242a44458bb9890e1e817aeceeed1b125690987ac2befb503a77a60"), looks := false }, kinds := [], alts := [], laidByText := true, laidKinds := [.data, .pinned], laidTests := true, laidLooks := .later }
def ScrubLacksCardSaid : Prop := Claim7.holds Tryd.pinned (.plain (OpenSpec.ofChange scrubLacksSpec)) scrubLacksCard

/-- THE SECOND FORM's CARD OF 'emulsionlaw9.PoolFull'. -/
def poolFullUptoCard : Claim7 := { stood := { row := poolFullUptoRow, standIns := [], harness := (true, "ec4cc6578242a44458bb9890e1e817aeceeed1b125690987ac2befb503a77a60"), looks := false }, kinds := [], alts := [], laidByText := true, laidKinds := [.data, .pinned], laidTests := true, laidLooks := .later }
def PoolFullUptoCardSaid : Prop := Claim7.holds Tryd.pinned (.plain (OpenSpec.upto poolFullSpec)) poolFullUptoCard

/-- THE SECOND FORM's CARD OF 'emulsionlaw9.PoolOnce'. -/
def poolOnceUptoCard : Claim7 := { stood := { row := poolOnceUptoRow, standIns := [], harness := (true, "ec4cc6578242a44458bb9890e1e817aeceeed1b125690987ac2befb503a77a60"), looks := false }, kinds := [], alts := [], laidByText := true, laidKinds := [.data, .pinned], laidTests := true, laidLooks := .later }
def PoolOnceUptoCardSaid : Prop := Claim7.holds Tryd.pinned (.plain (OpenSpec.upto poolOnceSpec)) poolOnceUptoCard

/-- THE SECOND FORM's CARD OF 'emulsionlaw21.ScrubRight'. -/
def scrubRightUptoCard : Claim7 := { stood := { row := scrubRightUptoRow, standIns := [], harness := (true, "ec4cc6578242a44458bb9890e1e817aeceeed1b125690987ac2befb503a77a60"), looks := false }, kinds := [], alts := [], laidByText := true, laidKinds := [.data, .pinned], laidTests := true, laidLooks := .later }
def ScrubRightUptoCardSaid : Prop := Claim7.holds Tryd.pinned (.plain (OpenSpec.upto scrubRightSpec)) scrubRightUptoCard

/-- THE SECOND FORM's CARD OF 'emulsionlaw21.ScrubMends'. -/
def scrubMendsUptoCard : Claim7 := { stood := { row := scrubMendsUptoRow, standIns := [], harness := (true, "ec4cc6578242a44458bb9890e1e817aeceeed1b125690987ac2befb503a77a60"), looks := false }, kinds := [], alts := [], laidByText := true, laidKinds := [.data, .pinned], laidTests := true, laidLooks := .later }
def ScrubMendsUptoCardSaid : Prop := Claim7.holds Tryd.pinned (.plain (OpenSpec.upto scrubMendsSpec)) scrubMendsUptoCard

/-- THE SECOND FORM's CARD OF 'emulsionlaw21.ScrubLacks'. -/
def scrubLacksUptoCard : Claim7 := { stood := { row := scrubLacksUptoRow, standIns := [], harness := (true, "ec4cc6578242a44458bb9890e1e817aeceeed1b125690987ac2befb503a77a60"), looks := false }, kinds := [], alts := [], laidByText := true, laidKinds := [.data, .pinned], laidTests := true, laidLooks := .later }
def ScrubLacksUptoCardSaid : Prop := Claim7.holds Tryd.pinned (.plain (OpenSpec.upto scrubLacksSpec)) scrubLacksUptoCard
end Rows
end Go.Proofs.YtdpbjigdihajjaaDoor
