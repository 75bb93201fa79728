/-
  NARROWER THAN 'FOR EVERY INPUT', by the rows' own cells (each row's printed sentence says how): RecordMay: laid · RecordTurns: laid · RecordApart: laid · RecordSwaps: laid · RecordBack: laid.
  DERIVED. THE GIVEN ROWS OF THIS SEAT. 5 by the template 'for every input the law returns true; each argument reads behind the call as it read before'; 0 by the template 'total and deterministic' (their statements: YthencidlkacpdaaDoorTotals.lean).
  GIVEN WITH THE SEED: the statements are not yours to turn. If you find one false, say at which input.
  Laid BY PROGRAM, IN A SANDBOX (cutbox-rows.mjs): the forced cells as the released guide's own fill.sh prints them over the translation 69ea29afc1af9149… (all of the seat's roots in one cut). By AI agents, Wed Nov 11 2026. No macro, syntax, notation, axiom, sorry.
-/
import Derived.Test.YthencidlkacpdaaDoorChecked
import GoSem.Claim
import GoSem.ClaimJoined
import GoSem.ClaimMapViews
import Derived.JoinedTies
import Derived.KernelRfl
namespace Go.Proofs.YthencidlkacpdaaDoor
/- THE CELL 'sum', in the pinned program and in every row, IS THE sha256 OF THE DUMP (.gsa) THAT YthencidlkacpdaaDoorProg.lean LOADS. Nothing in Lean hashes anything: it is a label: what it is worth is what the hold of that sum in a sandbox is worth. -/
noncomputable def Tryd.pinned : Pinned := { name := "ythencidlkacpdaadoor", sum := "69ea29afc1af9149ea8a14957d18f27041711f88f223f1f1591a288baff5b190", checked := Tryd.checked }
namespace Rows
def none {H : Type} : Left H := { results := [], args := [] }

/- WHAT THE LISTED PACKAGE-LEVEL VARIABLES READ AS WHEN THE CALL BEGINS. Each datum BY PROGRAM (the guide's laid-datum.mjs) off the statement by which the dump's own 'gosem.cut.vars' lays the variable. In a bare row this is a premise. The card (YthencidlkacpdaaDoorCards.lean) ties it to the program's text. -/
def laid_windrose_record_nowhere {H : Type} : DataW H := .agg [.lit (.int .i64 0), .lit (.int .i64 0)]

/-- 'windroselaw10.RecordMay': WHATEVER THE INPUT: true; the input reads as it did. -/
def recordMaySpec : ChangeSpec := { name := "recordMay", fn := fun _ => fun
  | [d1, d2, d3] => { results := [.lit (.bool true)], args := [d1, d2, d3] }
  | _ => none }
def recordMayRow : OpenClaim := { program := "ythencidlkacpdaadoor", sum := "69ea29afc1af9149ea8a14957d18f27041711f88f223f1f1591a288baff5b190", func := "windrose/windroselaw10.RecordMay", spec := "recordMay", unfollowed := true, recurses := true, named := ["windrose/record.nowhere"], plainKeys := false, apart := false, laid := [("windrose/record.nowhere", laid_windrose_record_nowhere)] }
def RecordMaySaid : Prop := recordMayRow.holds Tryd.pinned (OpenSpec.ofChange recordMaySpec)

/-- ITS FALSE NEIGHBOUR: 'it returns false'. Refute it at one input. -/
def recordMayWrong : ChangeSpec := { name := "recordMay", fn := fun _ => fun
  | [d1, d2, d3] => { results := [.lit (.bool false)], args := [d1, d2, d3] }
  | _ => none }
def RecordMayWrongFalsely : Prop := recordMayRow.holds Tryd.pinned (OpenSpec.ofChange recordMayWrong)

/-- 'windroselaw10.RecordTurns': WHATEVER THE INPUT: true; the input reads as it did. -/
def recordTurnsSpec : ChangeSpec := { name := "recordTurns", fn := fun _ => fun
  | [d1, d2] => { results := [.lit (.bool true)], args := [d1, d2] }
  | _ => none }
def recordTurnsRow : OpenClaim := { program := "ythencidlkacpdaadoor", sum := "69ea29afc1af9149ea8a14957d18f27041711f88f223f1f1591a288baff5b190", func := "windrose/windroselaw10.RecordTurns", spec := "recordTurns", unfollowed := true, recurses := true, named := ["windrose/record.nowhere"], plainKeys := false, apart := false, laid := [("windrose/record.nowhere", laid_windrose_record_nowhere)] }
def RecordTurnsSaid : Prop := recordTurnsRow.holds Tryd.pinned (OpenSpec.ofChange recordTurnsSpec)

/-- ITS FALSE NEIGHBOUR: 'it returns false'. Refute it at one input. -/
def recordTurnsWrong : ChangeSpec := { name := "recordTurns", fn := fun _ => fun
  | [d1, d2] => { results := [.lit (.bool false)], args := [d1, d2] }
  | _ => none }
def RecordTurnsWrongFalsely : Prop := recordTurnsRow.holds Tryd.pinned (OpenSpec.ofChange recordTurnsWrong)

/-- 'windroselaw10.RecordApart': WHATEVER THE INPUT: true; the input reads as it did. -/
def recordApartSpec : ChangeSpec := { name := "recordApart", fn := fun _ => fun
  | [d1, d2] => { results := [.lit (.bool true)], args := [d1, d2] }
  | _ => none }
def recordApartRow : OpenClaim := { program := "ythencidlkacpdaadoor", sum := "69ea29afc1af9149ea8a14957d18f27041711f88f223f1f1591a288baff5b190", func := "windrose/windroselaw10.RecordApart", spec := "recordApart", unfollowed := true, recurses := true, named := ["windrose/record.nowhere"], plainKeys := false, apart := false, laid := [("windrose/record.nowhere", laid_windrose_record_nowhere)] }
def RecordApartSaid : Prop := recordApartRow.holds Tryd.pinned (OpenSpec.ofChange recordApartSpec)

/-- ITS FALSE NEIGHBOUR: 'it returns false'. Refute it at one input. -/
def recordApartWrong : ChangeSpec := { name := "recordApart", fn := fun _ => fun
  | [d1, d2] => { results := [.lit (.bool false)], args := [d1, d2] }
  | _ => none }
def RecordApartWrongFalsely : Prop := recordApartRow.holds Tryd.pinned (OpenSpec.ofChange recordApartWrong)

/-- 'windroselaw10.RecordSwaps': WHATEVER THE INPUT: true; the input reads as it did. -/
def recordSwapsSpec : ChangeSpec := { name := "recordSwaps", fn := fun _ => fun
  | [d1, d2] => { results := [.lit (.bool true)], args := [d1, d2] }
  | _ => none }
def recordSwapsRow : OpenClaim := { program := "ythencidlkacpdaadoor", sum := "69ea29afc1af9149ea8a14957d18f27041711f88f223f1f1591a288baff5b190", func := "windrose/windroselaw10.RecordSwaps", spec := "recordSwaps", unfollowed := true, recurses := true, named := ["windrose/record.nowhere"], plainKeys := false, apart := false, laid := [("windrose/record.nowhere", laid_windrose_record_nowhere)] }
def RecordSwapsSaid : Prop := recordSwapsRow.holds Tryd.pinned (OpenSpec.ofChange recordSwapsSpec)

/-- ITS FALSE NEIGHBOUR: 'it returns false'. Refute it at one input. -/
def recordSwapsWrong : ChangeSpec := { name := "recordSwaps", fn := fun _ => fun
  | [d1, d2] => { results := [.lit (.bool false)], args := [d1, d2] }
  | _ => none }
def RecordSwapsWrongFalsely : Prop := recordSwapsRow.holds Tryd.pinned (OpenSpec.ofChange recordSwapsWrong)

/-- 'windroselaw10.RecordBack': WHATEVER THE INPUT: true; the input reads as it did. -/
def recordBackSpec : ChangeSpec := { name := "recordBack", fn := fun _ => fun
  | [d1, d2] => { results := [.lit (.bool true)], args := [d1, d2] }
  | _ => none }
def recordBackRow : OpenClaim := { program := "ythencidlkacpdaadoor", sum := "69ea29afc1af9149ea8a14957d18f27041711f88f223f1f1591a288baff5b190", func := "windrose/windroselaw10.RecordBack", spec := "recordBack", unfollowed := true, recurses := true, named := ["windrose/record.nowhere"], plainKeys := false, apart := false, laid := [("windrose/record.nowhere", laid_windrose_record_nowhere)] }
def RecordBackSaid : Prop := recordBackRow.holds Tryd.pinned (OpenSpec.ofChange recordBackSpec)

/-- ITS FALSE NEIGHBOUR: 'it returns false'. Refute it at one input. -/
def recordBackWrong : ChangeSpec := { name := "recordBack", fn := fun _ => fun
  | [d1, d2] => { results := [.lit (.bool false)], args := [d1, d2] }
  | _ => none }
def RecordBackWrongFalsely : Prop := recordBackRow.holds Tryd.pinned (OpenSpec.ofChange recordBackWrong)

/- THE SECOND FORM. 'bulk': how many values and letters a reading holds, each counted each time it is reached (what is shared counts as often as it is met; a slice's spare places count too). A statement '..UptoSaid' is the law's where the arguments, and the package variables that the reading takes, are together of bulk at most 1048576: NARROWER than '..Said'. Prove '..Said' where nothing that the law and all that it calls make is longer than what came in: it says more and counts as full. Else prove '..UptoSaid'. A law counts once. -/
mutual
def uptoBulk {H : Type} : DataW H → Nat
  | .lit (.string bytes) => bytes.length + 1
  | .lit _ => 1
  | .nil => 1
  | .ptr d => uptoBulk d + 1
  | .slice elems spare => uptoBulkAll elems + uptoBulkAll spare + 1
  | .agg parts => uptoBulkAll parts + 1
  | .iface _ d => uptoBulk d + 1
  | .map entries => uptoBulkEntries entries + 1
  | .held _ => 1
def uptoBulkAll {H : Type} : List (DataW H) → Nat
  | [] => 0
  | d :: r => uptoBulk d + uptoBulkAll r
def uptoBulkEntries {H : Type} : List (Lit × DataW H) → Nat
  | [] => 0
  | x :: r => uptoBulkEntry x + uptoBulkEntries r
def uptoBulkEntry {H : Type} : Lit × DataW H → Nat
  | (.string bytes, d) => bytes.length + uptoBulk d + 1
  | (_, d) => uptoBulk d + 1
 end
def uptoSmall : (H : Type) → List (DataW H) → Bool := fun _ ds => decide (uptoBulkAll ds ≤ 1048576)
def OpenSpec.upto (s : _root_.Go.ChangeSpec) : _root_.Go.OpenSpec := { _root_.Go.OpenSpec.ofChange s with cond := some uptoSmall }

/-- 'windroselaw10.RecordMay', WHERE WHAT IT READS IS OF BULK AT MOST 1048576: true; the input reads as it did. -/
def recordMayUptoRow : OpenClaim := { program := "ythencidlkacpdaadoor", sum := "69ea29afc1af9149ea8a14957d18f27041711f88f223f1f1591a288baff5b190", func := "windrose/windroselaw10.RecordMay", spec := "recordMay", unfollowed := true, recurses := true, named := ["windrose/record.nowhere"], plainKeys := false, apart := false, laid := [("windrose/record.nowhere", laid_windrose_record_nowhere)], narrowed := true }
def RecordMayUptoSaid : Prop := recordMayUptoRow.holds Tryd.pinned (OpenSpec.upto recordMaySpec)

/-- 'windroselaw10.RecordTurns', WHERE WHAT IT READS IS OF BULK AT MOST 1048576: true; the input reads as it did. -/
def recordTurnsUptoRow : OpenClaim := { program := "ythencidlkacpdaadoor", sum := "69ea29afc1af9149ea8a14957d18f27041711f88f223f1f1591a288baff5b190", func := "windrose/windroselaw10.RecordTurns", spec := "recordTurns", unfollowed := true, recurses := true, named := ["windrose/record.nowhere"], plainKeys := false, apart := false, laid := [("windrose/record.nowhere", laid_windrose_record_nowhere)], narrowed := true }
def RecordTurnsUptoSaid : Prop := recordTurnsUptoRow.holds Tryd.pinned (OpenSpec.upto recordTurnsSpec)

/-- 'windroselaw10.RecordApart', WHERE WHAT IT READS IS OF BULK AT MOST 1048576: true; the input reads as it did. -/
def recordApartUptoRow : OpenClaim := { program := "ythencidlkacpdaadoor", sum := "69ea29afc1af9149ea8a14957d18f27041711f88f223f1f1591a288baff5b190", func := "windrose/windroselaw10.RecordApart", spec := "recordApart", unfollowed := true, recurses := true, named := ["windrose/record.nowhere"], plainKeys := false, apart := false, laid := [("windrose/record.nowhere", laid_windrose_record_nowhere)], narrowed := true }
def RecordApartUptoSaid : Prop := recordApartUptoRow.holds Tryd.pinned (OpenSpec.upto recordApartSpec)

/-- 'windroselaw10.RecordSwaps', WHERE WHAT IT READS IS OF BULK AT MOST 1048576: true; the input reads as it did. -/
def recordSwapsUptoRow : OpenClaim := { program := "ythencidlkacpdaadoor", sum := "69ea29afc1af9149ea8a14957d18f27041711f88f223f1f1591a288baff5b190", func := "windrose/windroselaw10.RecordSwaps", spec := "recordSwaps", unfollowed := true, recurses := true, named := ["windrose/record.nowhere"], plainKeys := false, apart := false, laid := [("windrose/record.nowhere", laid_windrose_record_nowhere)], narrowed := true }
def RecordSwapsUptoSaid : Prop := recordSwapsUptoRow.holds Tryd.pinned (OpenSpec.upto recordSwapsSpec)

/-- 'windroselaw10.RecordBack', WHERE WHAT IT READS IS OF BULK AT MOST 1048576: true; the input reads as it did. -/
def recordBackUptoRow : OpenClaim := { program := "ythencidlkacpdaadoor", sum := "69ea29afc1af9149ea8a14957d18f27041711f88f223f1f1591a288baff5b190", func := "windrose/windroselaw10.RecordBack", spec := "recordBack", unfollowed := true, recurses := true, named := ["windrose/record.nowhere"], plainKeys := false, apart := false, laid := [("windrose/record.nowhere", laid_windrose_record_nowhere)], narrowed := true }
def RecordBackUptoSaid : Prop := recordBackUptoRow.holds Tryd.pinned (OpenSpec.upto recordBackSpec)

end Rows
end Go.Proofs.YthencidlkacpdaaDoor
