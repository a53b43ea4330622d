/-
  DERIVED. GIVEN WITH THE SEED: THE CARDS: each row of YtlckljibajhhkaaDoorRows.lean that lists a variable, with what it lists TIED to the program's text (the seventh form; the later family's looks); each row that meets fmt, with fmt's text TOLD by the authors' own Lean function (tested against real Go, not proved from fmt's source: count such statements apart). THE CARD IS WHAT COUNTS. Prove the row's statement (the work); the ties are given (YtlckljibajhhkaaDoorTie.lean); close each card by the builder's one call (the guide's Derived/Test/ToyasCard.lean, 'card_holds'). Laid BY PROGRAM, IN A SANDBOX (cutbox-door.mjs). By AI agents, Wed Nov 11 2026. No macro, syntax, notation, axiom, sorry.
-/
import Derived.Test.YtlckljibajhhkaaDoorRows
import GoSem.ClaimSeven
namespace Go.Proofs.YtlckljibajhhkaaDoor
namespace Rows

/-- THE TIED CARD OF 'demonlaw5.GasKeeps'. -/
def gasKeepsCard : Claim7 := { stood := { row := gasKeepsRow, standIns := [], harness := (true, "258e93d4ae67e57dd5f85d8c3d5da2f838c4366121416f24c26c13922cf85f38"), looks := true }, kinds := [], alts := [], laidByText := true, laidKinds := [.data, .sentinel, .sentinel, .sentinel, .pinned], laidTests := true, laidLooks := .later }
def GasKeepsCardSaid : Prop := Claim7.holds Tryd.pinned (.plain (OpenSpec.ofChange gasKeepsSpec)) gasKeepsCard

/-- THE TIED CARD OF 'demonlaw5.GasRun'. -/
def gasRunCard : Claim7 := { stood := { row := gasRunRow, standIns := [], harness := (true, "258e93d4ae67e57dd5f85d8c3d5da2f838c4366121416f24c26c13922cf85f38"), looks := true }, kinds := [], alts := [], laidByText := true, laidKinds := [.data, .handle, .sentinel, .sentinel, .sentinel, .sentinel, .sentinel, .sentinel, .sentinel, .sentinel, .pinned], laidTests := true, laidLooks := .later }
def GasRunCardSaid : Prop := Claim7.holds Tryd.pinned (.plain (OpenSpec.ofChange gasRunSpec)) gasRunCard

/-- THE TIED CARD OF 'demonlaw5.GasCoarse'. -/
def gasCoarseCard : Claim7 := { stood := { row := gasCoarseRow, standIns := [], harness := (true, "258e93d4ae67e57dd5f85d8c3d5da2f838c4366121416f24c26c13922cf85f38"), looks := true }, kinds := [], alts := [], laidByText := true, laidKinds := [.data, .handle, .sentinel, .sentinel, .sentinel, .sentinel, .sentinel, .sentinel, .sentinel, .sentinel, .pinned], laidTests := true, laidLooks := .later }
def GasCoarseCardSaid : Prop := Claim7.holds Tryd.pinned (.plain (OpenSpec.ofChange gasCoarseSpec)) gasCoarseCard

/-- THE TIED CARD OF 'demonlaw5.GasStep'. -/
def gasStepCard : Claim7 := { stood := { row := gasStepRow, standIns := [], harness := (true, "258e93d4ae67e57dd5f85d8c3d5da2f838c4366121416f24c26c13922cf85f38"), looks := true }, kinds := [], alts := [], laidByText := true, laidKinds := [.data, .handle, .sentinel, .sentinel, .sentinel, .sentinel, .sentinel, .sentinel, .sentinel, .sentinel, .pinned], laidTests := true, laidLooks := .later }
def GasStepCardSaid : Prop := Claim7.holds Tryd.pinned (.plain (OpenSpec.ofChange gasStepSpec)) gasStepCard

/-- THE TIED CARD OF 'demonlaw5.GasRound'. -/
def gasRoundCard : Claim7 := { stood := { row := gasRoundRow, standIns := [], harness := (true, "258e93d4ae67e57dd5f85d8c3d5da2f838c4366121416f24c26c13922cf85f38"), looks := true }, kinds := [], alts := [], laidByText := true, laidKinds := [.data, .handle, .sentinel, .sentinel, .sentinel, .sentinel, .sentinel, .sentinel, .sentinel, .sentinel, .pinned], laidTests := true, laidLooks := .later }
def GasRoundCardSaid : Prop := Claim7.holds Tryd.pinned (.plain (OpenSpec.ofChange gasRoundSpec)) gasRoundCard

/-- THE SECOND FORM's CARD OF 'demonlaw5.GasKeeps'. -/
def gasKeepsUptoCard : Claim7 := { stood := { row := gasKeepsUptoRow, standIns := [], harness := (true, "258e93d4ae67e57dd5f85d8c3d5da2f838c4366121416f24c26c13922cf85f38"), looks := true }, kinds := [], alts := [], laidByText := true, laidKinds := [.data, .sentinel, .sentinel, .sentinel, .pinned], laidTests := true, laidLooks := .later }
def GasKeepsUptoCardSaid : Prop := Claim7.holds Tryd.pinned (.plain (OpenSpec.upto gasKeepsSpec)) gasKeepsUptoCard

/-- THE SECOND FORM's CARD OF 'demonlaw5.GasRun'. -/
def gasRunUptoCard : Claim7 := { stood := { row := gasRunUptoRow, standIns := [], harness := (true, "258e93d4ae67e57dd5f85d8c3d5da2f838c4366121416f24c26c13922cf85f38"), looks := true }, kinds := [], alts := [], laidByText := true, laidKinds := [.data, .handle, .sentinel, .sentinel, .sentinel, .sentinel, .sentinel, .sentinel, .sentinel, .sentinel, .pinned], laidTests := true, laidLooks := .later }
def GasRunUptoCardSaid : Prop := Claim7.holds Tryd.pinned (.plain (OpenSpec.upto gasRunSpec)) gasRunUptoCard

/-- THE SECOND FORM's CARD OF 'demonlaw5.GasCoarse'. -/
def gasCoarseUptoCard : Claim7 := { stood := { row := gasCoarseUptoRow, standIns := [], harness := (true, "258e93d4ae67e57dd5f85d8c3d5da2f838c4366121416f24c26c13922cf85f38"), looks := true }, kinds := [], alts := [], laidByText := true, laidKinds := [.data, .handle, .sentinel, .sentinel, .sentinel, .sentinel, .sentinel, .sentinel, .sentinel, .sentinel, .pinned], laidTests := true, laidLooks := .later }
def GasCoarseUptoCardSaid : Prop := Claim7.holds Tryd.pinned (.plain (OpenSpec.upto gasCoarseSpec)) gasCoarseUptoCard

/-- THE SECOND FORM's CARD OF 'demonlaw5.GasStep'. -/
def gasStepUptoCard : Claim7 := { stood := { row := gasStepUptoRow, standIns := [], harness := (true, "258e93d4ae67e57dd5f85d8c3d5da2f838c4366121416f24c26c13922cf85f38"), looks := true }, kinds := [], alts := [], laidByText := true, laidKinds := [.data, .handle, .sentinel, .sentinel, .sentinel, .sentinel, .sentinel, .sentinel, .sentinel, .sentinel, .pinned], laidTests := true, laidLooks := .later }
def GasStepUptoCardSaid : Prop := Claim7.holds Tryd.pinned (.plain (OpenSpec.upto gasStepSpec)) gasStepUptoCard

/-- THE SECOND FORM's CARD OF 'demonlaw5.GasRound'. -/
def gasRoundUptoCard : Claim7 := { stood := { row := gasRoundUptoRow, standIns := [], harness := (true, "258e93d4ae67e57dd5f85d8c3d5da2f838c4366121416f24c26c13922cf85f38"), looks := true }, kinds := [], alts := [], laidByText := true, laidKinds := [.data, .handle, .sentinel, .sentinel, .sentinel, .sentinel, .sentinel, .sentinel, .sentinel, .sentinel, .pinned], laidTests := true, laidLooks := .later }
def GasRoundUptoCardSaid : Prop := Claim7.holds Tryd.pinned (.plain (OpenSpec.upto gasRoundSpec)) gasRoundUptoCard
end Rows
end Go.Proofs.YtlckljibajhhkaaDoor
