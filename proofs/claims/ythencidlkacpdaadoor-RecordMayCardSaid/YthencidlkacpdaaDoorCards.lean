/-
  DERIVED. GIVEN WITH THE SEED: THE CARDS: each row of YthencidlkacpdaaDoorRows.lean that lists a variable, with what it lists TIED to the program's text (the seventh form; the later family's looks); each row that meets fmt, with fmt's text TOLD by the authors' own Lean function (tested against real Go, not proved from fmt's source: count such statements apart). THE CARD IS WHAT COUNTS. Prove the row's statement (the work); the ties are given (YthencidlkacpdaaDoorTie.lean); close each card by the builder's one call (the guide's Derived/Test/ToyasCard.lean, 'card_holds'). Laid BY PROGRAM, IN A SANDBOX (cutbox-door.mjs). By AI agents, Wed Nov 11 2026. No macro, syntax, notation, axiom, sorry.
-/
import Derived.Test.YthencidlkacpdaaDoorRows
import GoSem.ClaimSeven
namespace Go.Proofs.YthencidlkacpdaaDoor
namespace Rows

/-- THE TIED CARD OF 'windroselaw10.RecordMay'. -/
def recordMayCard : Claim7 := { stood := { row := recordMayRow, standIns := [], harness := (true, "4350b0f67f5b4093a145eaf872a59d2f3b4eebdadc084870a74d18e89d24acfa"), looks := false }, kinds := [], alts := [], laidByText := true, laidKinds := [.data], laidTests := true, laidLooks := .later }
def RecordMayCardSaid : Prop := Claim7.holds Tryd.pinned (.plain (OpenSpec.ofChange recordMaySpec)) recordMayCard

/-- THE TIED CARD OF 'windroselaw10.RecordTurns'. -/
def recordTurnsCard : Claim7 := { stood := { row := recordTurnsRow, standIns := [], harness := (true, "4350b0f67f5b4093a145eaf872a59d2f3b4eebdadc084870a74d18e89d24acfa"), looks := false }, kinds := [], alts := [], laidByText := true, laidKinds := [.data], laidTests := true, laidLooks := .later }
def RecordTurnsCardSaid : Prop := Claim7.holds Tryd.pinned (.plain (OpenSpec.ofChange recordTurnsSpec)) recordTurnsCard

/-- THE TIED CARD OF 'windroselaw10.RecordApart'. -/
def recordApartCard : Claim7 := { stood := { row := recordApartRow, standIns := [], harness := (true, "4350b0f67f5b4093a145eaf872a59d2f3b4eebdadc084870a74d18e89d24acfa"), looks := false }, kinds := [], alts := [], laidByText := true, laidKinds := [.data], laidTests := true, laidLooks := .later }
def RecordApartCardSaid : Prop := Claim7.holds Tryd.pinned (.plain (OpenSpec.ofChange recordApartSpec)) recordApartCard

/-- THE TIED CARD OF 'windroselaw10.RecordSwaps'. -/
def recordSwapsCard : Claim7 := { stood := { row := recordSwapsRow, standIns := [], harness := (true, "4350b0f67f5b4093a145eaf872a59d2f3b4eebdadc084870a74d18e89d24acfa"), looks := false }, kinds := [], alts := [], laidByText := true, laidKinds := [.data], laidTests := true, laidLooks := .later }
def RecordSwapsCardSaid : Prop := Claim7.holds Tryd.pinned (.plain (OpenSpec.ofChange recordSwapsSpec)) recordSwapsCard

/-- THE TIED CARD OF 'windroselaw10.RecordBack'. -/
def recordBackCard : Claim7 := { stood := { row := recordBackRow, standIns := [], harness := (true, "4350b0f67f5b4093a145eaf872a59d2f3b4eebdadc084870a74d18e89d24acfa"), looks := false }, kinds := [], alts := [], laidByText := true, laidKinds := [.data], laidTests := true, laidLooks := .later }
def RecordBackCardSaid : Prop := Claim7.holds Tryd.pinned (.plain (OpenSpec.ofChange recordBackSpec)) recordBackCard

/-- THE SECOND FORM's CARD OF 'windroselaw10.RecordMay'. -/
def recordMayUptoCard : Claim7 := { stood := { row := recordMayUptoRow, standIns := [], harness := (true, "4350b0f67f5b4093a145eaf872a59d2f3b4eebdadc084870a74d18e89d24acfa"), looks := false }, kinds := [], alts := [], laidByText := true, laidKinds := [.data], laidTests := true, laidLooks := .later }
def RecordMayUptoCardSaid : Prop := Claim7.holds Tryd.pinned (.plain (OpenSpec.upto recordMaySpec)) recordMayUptoCard

/-- THE SECOND FORM's CARD OF 'windroselaw10.RecordTurns'. -/
def recordTurnsUptoCard : Claim7 := { stood := { row := recordTurnsUptoRow, standIns := [], harness := (true, "4350b0f67f5b4093a145eaf872a59d2f3b4eebdadc084870a74d18e89d24acfa"), looks := false }, kinds := [], alts := [], laidByText := true, laidKinds := [.data], laidTests := true, laidLooks := .later }
def RecordTurnsUptoCardSaid : Prop := Claim7.holds Tryd.pinned (.plain (OpenSpec.upto recordTurnsSpec)) recordTurnsUptoCard

/-- THE SECOND FORM's CARD OF 'windroselaw10.RecordApart'. -/
def recordApartUptoCard : Claim7 := { stood := { row := recordApartUptoRow, standIns := [], harness := (true, "4350b0f67f5b4093a145eaf872a59d2f3b4eebdadc084870a74d18e89d24acfa"), looks := false }, kinds := [], alts := [], laidByText := true, laidKinds := [.data], laidTests := true, laidLooks := .later }
def RecordApartUptoCardSaid : Prop := Claim7.holds Tryd.pinned (.plain (OpenSpec.upto recordApartSpec)) recordApartUptoCard

/-- THE SECOND FORM's CARD OF 'windroselaw10.RecordSwaps'. -/
def recordSwapsUptoCard : Claim7 := { stood := { row := recordSwapsUptoRow, standIns := [], harness := (true, "4350b0f67f5b4093a145eaf872a59d2f3b4eebdadc084870a74d18e89d24acfa"), looks := false }, kinds := [], alts := [], laidByText := true, laidKinds := [.data], laidTests := true, laidLooks := .later }
def RecordSwapsUptoCardSaid : Prop := Claim7.holds Tryd.pinned (.plain (OpenSpec.upto recordSwapsSpec)) recordSwapsUptoCard

/-- THE SECOND FORM's CARD OF 'windroselaw10.RecordBack'. -/
def recordBackUptoCard : Claim7 := { stood := { row := recordBackUptoRow, standIns := [], harness := (true, "4350b0f67f5b4093a145eaf872a59d2f3b4eebdadc084870a74d18e89d24acfa"), looks := false }, kinds := [], alts := [], laidByText := true, laidKinds := [.data], laidTests := true, laidLooks := .later }
def RecordBackUptoCardSaid : Prop := Claim7.holds Tryd.pinned (.plain (OpenSpec.upto recordBackSpec)) recordBackUptoCard
end Rows
end Go.Proofs.YthencidlkacpdaaDoor
