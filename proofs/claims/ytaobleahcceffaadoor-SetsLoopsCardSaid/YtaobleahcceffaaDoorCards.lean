/-
  DERIVED. GIVEN WITH THE SEED: THE CARDS: each row of YtaobleahcceffaaDoorRows.lean that lists a variable, with what it lists TIED to the program's text (the seventh form; the later family's looks); each row that meets fmt, with fmt's text TOLD by the authors' own Lean function (tested against real Go, not proved from fmt's source: count such statements apart). THE CARD IS WHAT COUNTS. Prove the row's statement (the work); the ties are given (YtaobleahcceffaaDoorTie.lean); close each card by the builder's one call (the guide's Derived/Test/ToyasCard.lean, 'card_holds'). Laid BY PROGRAM, IN A SANDBOX (cutbox-door.mjs). By AI agents, Wed Nov 11 2026. No macro, syntax, notation, axiom, sorry.
-/
import Derived.Test.YtaobleahcceffaaDoorRows
import GoSem.ClaimSeven
namespace Go.Proofs.YtaobleahcceffaaDoor
namespace Rows

/-- THE TIED CARD OF 'brazierlaw03.SetsPlays'. -/
def setsPlaysCard : Claim7 := { stood := { row := setsPlaysRow, standIns := [], harness := (true, "945e48d05792171d21438e4bd4ec3fa74ae65d0e3ccc1a8a11cdbd13c66c9773"), looks := false }, kinds := [], alts := [], laidByText := true, laidKinds := [.data], laidTests := true, laidLooks := .later }
def SetsPlaysCardSaid : Prop := Claim7.holds Tryd.pinned (.plain (OpenSpec.ofChange setsPlaysSpec)) setsPlaysCard

/-- THE TIED CARD OF 'brazierlaw03.SetsLoops'. -/
def setsLoopsCard : Claim7 := { stood := { row := setsLoopsRow, standIns := [], harness := (true, "945e48d05792171d21438e4bd4ec3fa74ae65d0e3ccc1a8a11cdbd13c66c9773"), looks := false }, kinds := [], alts := [], laidByText := true, laidKinds := [.data], laidTests := true, laidLooks := .later }
def SetsLoopsCardSaid : Prop := Claim7.holds Tryd.pinned (.plain (OpenSpec.ofChange setsLoopsSpec)) setsLoopsCard

/-- THE TIED CARD OF 'brazierlaw03.SetsJoins'. -/
def setsJoinsCard : Claim7 := { stood := { row := setsJoinsRow, standIns := [], harness := (true, "945e48d05792171d21438e4bd4ec3fa74ae65d0e3ccc1a8a11cdbd13c66c9773"), looks := false }, kinds := [], alts := [], laidByText := true, laidKinds := [.data], laidTests := true, laidLooks := .later }
def SetsJoinsCardSaid : Prop := Claim7.holds Tryd.pinned (.plain (OpenSpec.ofChange setsJoinsSpec)) setsJoinsCard

/-- THE TIED CARD OF 'brazierlaw14.DeadLives'. -/
def deadLivesCard : Claim7 := { stood := { row := deadLivesRow, standIns := [], harness := (true, "945e48d05792171d21438e4bd4ec3fa74ae65d0e3ccc1a8a11cdbd13c66c9773"), looks := false }, kinds := [], alts := [], laidByText := true, laidKinds := [.data], laidTests := true, laidLooks := .later }
def DeadLivesCardSaid : Prop := Claim7.holds Tryd.pinned (.plain (OpenSpec.ofChange deadLivesSpec)) deadLivesCard

/-- THE SECOND FORM's CARD OF 'brazierlaw03.SetsPlays'. -/
def setsPlaysUptoCard : Claim7 := { stood := { row := setsPlaysUptoRow, standIns := [], harness := (true, "945e48d05792171d21438e4bd4ec3fa74ae65d0e3ccc1a8a11cdbd13c66c9773"), looks := false }, kinds := [], alts := [], laidByText := true, laidKinds := [.data], laidTests := true, laidLooks := .later }
def SetsPlaysUptoCardSaid : Prop := Claim7.holds Tryd.pinned (.plain (OpenSpec.upto setsPlaysSpec)) setsPlaysUptoCard

/-- THE SECOND FORM's CARD OF 'brazierlaw03.SetsLoops'. -/
def setsLoopsUptoCard : Claim7 := { stood := { row := setsLoopsUptoRow, standIns := [], harness := (true, "945e48d05792171d21438e4bd4ec3fa74ae65d0e3ccc1a8a11cdbd13c66c9773"), looks := false }, kinds := [], alts := [], laidByText := true, laidKinds := [.data], laidTests := true, laidLooks := .later }
def SetsLoopsUptoCardSaid : Prop := Claim7.holds Tryd.pinned (.plain (OpenSpec.upto setsLoopsSpec)) setsLoopsUptoCard

/-- THE SECOND FORM's CARD OF 'brazierlaw03.SetsJoins'. -/
def setsJoinsUptoCard : Claim7 := { stood := { row := setsJoinsUptoRow, standIns := [], harness := (true, "945e48d05792171d21438e4bd4ec3fa74ae65d0e3ccc1a8a11cdbd13c66c9773"), looks := false }, kinds := [], alts := [], laidByText := true, laidKinds := [.data], laidTests := true, laidLooks := .later }
def SetsJoinsUptoCardSaid : Prop := Claim7.holds Tryd.pinned (.plain (OpenSpec.upto setsJoinsSpec)) setsJoinsUptoCard

/-- THE SECOND FORM's CARD OF 'brazierlaw14.DeadLives'. -/
def deadLivesUptoCard : Claim7 := { stood := { row := deadLivesUptoRow, standIns := [], harness := (true, "945e48d05792171d21438e4bd4ec3fa74ae65d0e3ccc1a8a11cdbd13c66c9773"), looks := false }, kinds := [], alts := [], laidByText := true, laidKinds := [.data], laidTests := true, laidLooks := .later }
def DeadLivesUptoCardSaid : Prop := Claim7.holds Tryd.pinned (.plain (OpenSpec.upto deadLivesSpec)) deadLivesUptoCard
end Rows
end Go.Proofs.YtaobleahcceffaaDoor
