/-
  No cell of these rows narrows 'for every input' (looked for: loops, veiled, ifaces, maps, wideKeys, modest, calm, conditions, laid).
  DERIVED. THE GIVEN ROWS OF THIS SEAT. 6 by the template 'for every input the law returns true; each argument reads behind the call as it read before'; 0 by the template 'total and deterministic' (their statements: YtkeejkengoolpaaTotals.lean).
  GIVEN WITH THE SEED: the statements are not yours to turn. If you find one false, say at which input.
  Laid BY PROGRAM, IN A SANDBOX (cutbox-rows.mjs): the forced cells as the released guide's own fill.sh prints them over the translation 94615253b0f5f935… (all of the seat's roots in one cut). By AI agents, Wed Nov 11 2026. No macro, syntax, notation, axiom, sorry.
-/
import Derived.Test.YtkeejkengoolpaaChecked
import GoSem.Claim
import GoSem.ClaimJoined
import GoSem.ClaimMapViews
import Derived.JoinedTies
import Derived.KernelRfl
namespace Go.Proofs.Ytkeejkengoolpaa
/- THE CELL 'sum', in the pinned program and in every row, IS THE sha256 OF THE DUMP (.gsa) THAT YtkeejkengoolpaaProg.lean LOADS. Nothing in Lean hashes anything: it is a label: what it is worth is what the hold of that sum in a sandbox is worth. -/
noncomputable def Try.pinned : Pinned := { name := "ytkeejkengoolpaa", sum := "94615253b0f5f9355876fcf2d4896059b0293dfd8e45bc2d52a9b94899e2599b", checked := Try.checked }
namespace Rows
def none {H : Type} : Left H := { results := [], args := [] }

/-- 'windroselaw08.ColumnRows': WHATEVER THE INPUT: true; the input reads as it did. -/
def columnRowsSpec : ChangeSpec := { name := "columnRows", fn := fun _ => fun
  | [d1, d2, d3] => { results := [.lit (.bool true)], args := [d1, d2, d3] }
  | _ => none }
def columnRowsRow : OpenClaim := { program := "ytkeejkengoolpaa", sum := "94615253b0f5f9355876fcf2d4896059b0293dfd8e45bc2d52a9b94899e2599b", func := "windrose/windroselaw08.ColumnRows", spec := "columnRows", unfollowed := true, recurses := true, apart := false }
def ColumnRowsSaid : Prop := columnRowsRow.holds Try.pinned (OpenSpec.ofChange columnRowsSpec)

/-- ITS FALSE NEIGHBOUR: 'it returns false'. Refute it at one input. -/
def columnRowsWrong : ChangeSpec := { name := "columnRows", fn := fun _ => fun
  | [d1, d2, d3] => { results := [.lit (.bool false)], args := [d1, d2, d3] }
  | _ => none }
def ColumnRowsWrongFalsely : Prop := columnRowsRow.holds Try.pinned (OpenSpec.ofChange columnRowsWrong)

/-- 'windroselaw08.ColumnMoves': WHATEVER THE INPUT: true; the input reads as it did. -/
def columnMovesSpec : ChangeSpec := { name := "columnMoves", fn := fun _ => fun
  | [d1, d2, d3] => { results := [.lit (.bool true)], args := [d1, d2, d3] }
  | _ => none }
def columnMovesRow : OpenClaim := { program := "ytkeejkengoolpaa", sum := "94615253b0f5f9355876fcf2d4896059b0293dfd8e45bc2d52a9b94899e2599b", func := "windrose/windroselaw08.ColumnMoves", spec := "columnMoves", unfollowed := true, recurses := true, apart := false }
def ColumnMovesSaid : Prop := columnMovesRow.holds Try.pinned (OpenSpec.ofChange columnMovesSpec)

/-- ITS FALSE NEIGHBOUR: 'it returns false'. Refute it at one input. -/
def columnMovesWrong : ChangeSpec := { name := "columnMoves", fn := fun _ => fun
  | [d1, d2, d3] => { results := [.lit (.bool false)], args := [d1, d2, d3] }
  | _ => none }
def ColumnMovesWrongFalsely : Prop := columnMovesRow.holds Try.pinned (OpenSpec.ofChange columnMovesWrong)

/-- 'windroselaw08.ColumnSets': WHATEVER THE INPUT: true; the input reads as it did. -/
def columnSetsSpec : ChangeSpec := { name := "columnSets", fn := fun _ => fun
  | [d1, d2, d3] => { results := [.lit (.bool true)], args := [d1, d2, d3] }
  | _ => none }
def columnSetsRow : OpenClaim := { program := "ytkeejkengoolpaa", sum := "94615253b0f5f9355876fcf2d4896059b0293dfd8e45bc2d52a9b94899e2599b", func := "windrose/windroselaw08.ColumnSets", spec := "columnSets", unfollowed := true, recurses := true, apart := false }
def ColumnSetsSaid : Prop := columnSetsRow.holds Try.pinned (OpenSpec.ofChange columnSetsSpec)

/-- ITS FALSE NEIGHBOUR: 'it returns false'. Refute it at one input. -/
def columnSetsWrong : ChangeSpec := { name := "columnSets", fn := fun _ => fun
  | [d1, d2, d3] => { results := [.lit (.bool false)], args := [d1, d2, d3] }
  | _ => none }
def ColumnSetsWrongFalsely : Prop := columnSetsRow.holds Try.pinned (OpenSpec.ofChange columnSetsWrong)

/-- 'windroselaw08.ColumnMay': WHATEVER THE INPUT: true; the input reads as it did. -/
def columnMaySpec : ChangeSpec := { name := "columnMay", fn := fun _ => fun
  | [d1, d2, d3] => { results := [.lit (.bool true)], args := [d1, d2, d3] }
  | _ => none }
def columnMayRow : OpenClaim := { program := "ytkeejkengoolpaa", sum := "94615253b0f5f9355876fcf2d4896059b0293dfd8e45bc2d52a9b94899e2599b", func := "windrose/windroselaw08.ColumnMay", spec := "columnMay", unfollowed := true, recurses := true, apart := false }
def ColumnMaySaid : Prop := columnMayRow.holds Try.pinned (OpenSpec.ofChange columnMaySpec)

/-- ITS FALSE NEIGHBOUR: 'it returns false'. Refute it at one input. -/
def columnMayWrong : ChangeSpec := { name := "columnMay", fn := fun _ => fun
  | [d1, d2, d3] => { results := [.lit (.bool false)], args := [d1, d2, d3] }
  | _ => none }
def ColumnMayWrongFalsely : Prop := columnMayRow.holds Try.pinned (OpenSpec.ofChange columnMayWrong)

/-- 'windroselaw08.ColumnBack': WHATEVER THE INPUT: true; the input reads as it did. -/
def columnBackSpec : ChangeSpec := { name := "columnBack", fn := fun _ => fun
  | [d1, d2, d3] => { results := [.lit (.bool true)], args := [d1, d2, d3] }
  | _ => none }
def columnBackRow : OpenClaim := { program := "ytkeejkengoolpaa", sum := "94615253b0f5f9355876fcf2d4896059b0293dfd8e45bc2d52a9b94899e2599b", func := "windrose/windroselaw08.ColumnBack", spec := "columnBack", unfollowed := true, recurses := true, apart := false }
def ColumnBackSaid : Prop := columnBackRow.holds Try.pinned (OpenSpec.ofChange columnBackSpec)

/-- ITS FALSE NEIGHBOUR: 'it returns false'. Refute it at one input. -/
def columnBackWrong : ChangeSpec := { name := "columnBack", fn := fun _ => fun
  | [d1, d2, d3] => { results := [.lit (.bool false)], args := [d1, d2, d3] }
  | _ => none }
def ColumnBackWrongFalsely : Prop := columnBackRow.holds Try.pinned (OpenSpec.ofChange columnBackWrong)

/-- 'windroselaw08.ColumnThere': WHATEVER THE INPUT: true; the input reads as it did. -/
def columnThereSpec : ChangeSpec := { name := "columnThere", fn := fun _ => fun
  | [d1, d2, d3] => { results := [.lit (.bool true)], args := [d1, d2, d3] }
  | _ => none }
def columnThereRow : OpenClaim := { program := "ytkeejkengoolpaa", sum := "94615253b0f5f9355876fcf2d4896059b0293dfd8e45bc2d52a9b94899e2599b", func := "windrose/windroselaw08.ColumnThere", spec := "columnThere", unfollowed := true, recurses := true, apart := false }
def ColumnThereSaid : Prop := columnThereRow.holds Try.pinned (OpenSpec.ofChange columnThereSpec)

/-- ITS FALSE NEIGHBOUR: 'it returns false'. Refute it at one input. -/
def columnThereWrong : ChangeSpec := { name := "columnThere", fn := fun _ => fun
  | [d1, d2, d3] => { results := [.lit (.bool false)], args := [d1, d2, d3] }
  | _ => none }
def ColumnThereWrongFalsely : Prop := columnThereRow.holds Try.pinned (OpenSpec.ofChange columnThereWrong)

/- THE SECOND FORM. 'bulk': how many values and letters a reading holds, each counted each time it is reached (what is shared counts as often as it is met; a slice's spare places count too). A statement '..UptoSaid' is the law's where the arguments, and the package variables that the reading takes, are together of bulk at most 1048576: NARROWER than '..Said'. Prove '..Said' where nothing that the law and all that it calls make is longer than what came in: it says more and counts as full. Else prove '..UptoSaid'. A law counts once. -/
mutual
def uptoBulk {H : Type} : DataW H → Nat
  | .lit (.string bytes) => bytes.length + 1
  | .lit _ => 1
  | .nil => 1
  | .ptr d => uptoBulk d + 1
  | .slice elems spare => uptoBulkAll elems + uptoBulkAll spare + 1
  | .agg parts => uptoBulkAll parts + 1
  | .iface _ d => uptoBulk d + 1
  | .map entries => uptoBulkEntries entries + 1
  | .held _ => 1
def uptoBulkAll {H : Type} : List (DataW H) → Nat
  | [] => 0
  | d :: r => uptoBulk d + uptoBulkAll r
def uptoBulkEntries {H : Type} : List (Lit × DataW H) → Nat
  | [] => 0
  | x :: r => uptoBulkEntry x + uptoBulkEntries r
def uptoBulkEntry {H : Type} : Lit × DataW H → Nat
  | (.string bytes, d) => bytes.length + uptoBulk d + 1
  | (_, d) => uptoBulk d + 1
 end
def uptoSmall : (H : Type) → List (DataW H) → Bool := fun _ ds => decide (uptoBulkAll ds ≤ 1048576)
def OpenSpec.upto (s : _root_.Go.ChangeSpec) : _root_.Go.OpenSpec := { _root_.Go.OpenSpec.ofChange s with cond := some uptoSmall }

/-- 'windroselaw08.ColumnRows', WHERE WHAT IT READS IS OF BULK AT MOST 1048576: true; the input reads as it did. -/
def columnRowsUptoRow : OpenClaim := { program := "ytkeejkengoolpaa", sum := "94615253b0f5f9355876fcf2d4896059b0293dfd8e45bc2d52a9b94899e2599b", func := "windrose/windroselaw08.ColumnRows", spec := "columnRows", unfollowed := true, recurses := true, apart := false, narrowed := true }
def ColumnRowsUptoSaid : Prop := columnRowsUptoRow.holds Try.pinned (OpenSpec.upto columnRowsSpec)

/-- 'windroselaw08.ColumnMoves', WHERE WHAT IT READS IS OF BULK AT MOST 1048576: true; the input reads as it did. -/
def columnMovesUptoRow : OpenClaim := { program := "ytkeejkengoolpaa", sum := "94615253b0f5f9355876fcf2d4896059b0293dfd8e45bc2d52a9b94899e2599b", func := "windrose/windroselaw08.ColumnMoves", spec := "columnMoves", unfollowed := true, recurses := true, apart := false, narrowed := true }
def ColumnMovesUptoSaid : Prop := columnMovesUptoRow.holds Try.pinned (OpenSpec.upto columnMovesSpec)

/-- 'windroselaw08.ColumnSets', WHERE WHAT IT READS IS OF BULK AT MOST 1048576: true; the input reads as it did. -/
def columnSetsUptoRow : OpenClaim := { program := "ytkeejkengoolpaa", sum := "94615253b0f5f9355876fcf2d4896059b0293dfd8e45bc2d52a9b94899e2599b", func := "windrose/windroselaw08.ColumnSets", spec := "columnSets", unfollowed := true, recurses := true, apart := false, narrowed := true }
def ColumnSetsUptoSaid : Prop := columnSetsUptoRow.holds Try.pinned (OpenSpec.upto columnSetsSpec)

/-- 'windroselaw08.ColumnMay', WHERE WHAT IT READS IS OF BULK AT MOST 1048576: true; the input reads as it did. -/
def columnMayUptoRow : OpenClaim := { program := "ytkeejkengoolpaa", sum := "94615253b0f5f9355876fcf2d4896059b0293dfd8e45bc2d52a9b94899e2599b", func := "windrose/windroselaw08.ColumnMay", spec := "columnMay", unfollowed := true, recurses := true, apart := false, narrowed := true }
def ColumnMayUptoSaid : Prop := columnMayUptoRow.holds Try.pinned (OpenSpec.upto columnMaySpec)

/-- 'windroselaw08.ColumnBack', WHERE WHAT IT READS IS OF BULK AT MOST 1048576: true; the input reads as it did. -/
def columnBackUptoRow : OpenClaim := { program := "ytkeejkengoolpaa", sum := "94615253b0f5f9355876fcf2d4896059b0293dfd8e45bc2d52a9b94899e2599b", func := "windrose/windroselaw08.ColumnBack", spec := "columnBack", unfollowed := true, recurses := true, apart := false, narrowed := true }
def ColumnBackUptoSaid : Prop := columnBackUptoRow.holds Try.pinned (OpenSpec.upto columnBackSpec)

/-- 'windroselaw08.ColumnThere', WHERE WHAT IT READS IS OF BULK AT MOST 1048576: true; the input reads as it did. -/
def columnThereUptoRow : OpenClaim := { program := "ytkeejkengoolpaa", sum := "94615253b0f5f9355876fcf2d4896059b0293dfd8e45bc2d52a9b94899e2599b", func := "windrose/windroselaw08.ColumnThere", spec := "columnThere", unfollowed := true, recurses := true, apart := false, narrowed := true }
def ColumnThereUptoSaid : Prop := columnThereUptoRow.holds Try.pinned (OpenSpec.upto columnThereSpec)

end Rows
end Go.Proofs.Ytkeejkengoolpaa
