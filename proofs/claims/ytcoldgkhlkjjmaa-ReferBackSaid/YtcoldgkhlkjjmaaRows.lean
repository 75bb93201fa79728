/-
  No cell of these rows narrows 'for every input' (looked for: loops, veiled, ifaces, maps, wideKeys, modest, calm, conditions, laid).
  DERIVED. THE GIVEN ROWS OF THIS SEAT. 8 by the template 'for every input the law returns true; each argument reads behind the call as it read before'; 0 by the template 'total and deterministic' (their statements: YtcoldgkhlkjjmaaTotals.lean).
  GIVEN WITH THE SEED: the statements are not yours to turn. If you find one false, say at which input.
  Laid BY PROGRAM, IN A SANDBOX (cutbox-rows.mjs): the forced cells as the released guide's own fill.sh prints them over the translation f93dc71d432c79b7… (all of the seat's roots in one cut). By AI agents, Wed Nov 11 2026. No macro, syntax, notation, axiom, sorry.
-/
import Derived.Test.YtcoldgkhlkjjmaaChecked
import GoSem.Claim
import GoSem.ClaimJoined
import GoSem.ClaimMapViews
import Derived.JoinedTies
import Derived.KernelRfl
namespace Go.Proofs.Ytcoldgkhlkjjmaa
/- THE CELL 'sum', in the pinned program and in every row, IS THE sha256 OF THE DUMP (.gsa) THAT YtcoldgkhlkjjmaaProg.lean LOADS. Nothing in Lean hashes anything: it is a label: what it is worth is what the hold of that sum in a sandbox is worth. -/
noncomputable def Try.pinned : Pinned := { name := "ytcoldgkhlkjjmaa", sum := "f93dc71d432c79b7a0033d6be12050096f9ed114b1362cd499a1b91c9b4f70f1", checked := Try.checked }
namespace Rows
def none {H : Type} : Left H := { results := [], args := [] }

/-- 'windroselaw07.LookupTells': WHATEVER THE INPUT: true; the input reads as it did. -/
def lookupTellsSpec : ChangeSpec := { name := "lookupTells", fn := fun _ => fun
  | [d1, d2] => { results := [.lit (.bool true)], args := [d1, d2] }
  | _ => none }
def lookupTellsRow : OpenClaim := { program := "ytcoldgkhlkjjmaa", sum := "f93dc71d432c79b7a0033d6be12050096f9ed114b1362cd499a1b91c9b4f70f1", func := "windrose/windroselaw07.LookupTells", spec := "lookupTells", unfollowed := true, recurses := true, apart := false }
def LookupTellsSaid : Prop := lookupTellsRow.holds Try.pinned (OpenSpec.ofChange lookupTellsSpec)

/-- ITS FALSE NEIGHBOUR: 'it returns false'. Refute it at one input. -/
def lookupTellsWrong : ChangeSpec := { name := "lookupTells", fn := fun _ => fun
  | [d1, d2] => { results := [.lit (.bool false)], args := [d1, d2] }
  | _ => none }
def LookupTellsWrongFalsely : Prop := lookupTellsRow.holds Try.pinned (OpenSpec.ofChange lookupTellsWrong)

/-- 'windroselaw07.LookupGoes': WHATEVER THE INPUT: true; the input reads as it did. -/
def lookupGoesSpec : ChangeSpec := { name := "lookupGoes", fn := fun _ => fun
  | [d1, d2] => { results := [.lit (.bool true)], args := [d1, d2] }
  | _ => none }
def lookupGoesRow : OpenClaim := { program := "ytcoldgkhlkjjmaa", sum := "f93dc71d432c79b7a0033d6be12050096f9ed114b1362cd499a1b91c9b4f70f1", func := "windrose/windroselaw07.LookupGoes", spec := "lookupGoes", unfollowed := true, recurses := true, apart := false }
def LookupGoesSaid : Prop := lookupGoesRow.holds Try.pinned (OpenSpec.ofChange lookupGoesSpec)

/-- ITS FALSE NEIGHBOUR: 'it returns false'. Refute it at one input. -/
def lookupGoesWrong : ChangeSpec := { name := "lookupGoes", fn := fun _ => fun
  | [d1, d2] => { results := [.lit (.bool false)], args := [d1, d2] }
  | _ => none }
def LookupGoesWrongFalsely : Prop := lookupGoesRow.holds Try.pinned (OpenSpec.ofChange lookupGoesWrong)

/-- 'windroselaw07.LookupOrder': WHATEVER THE INPUT: true; the input reads as it did. -/
def lookupOrderSpec : ChangeSpec := { name := "lookupOrder", fn := fun _ => fun
  | [d] => { results := [.lit (.bool true)], args := [d] }
  | _ => none }
def lookupOrderRow : OpenClaim := { program := "ytcoldgkhlkjjmaa", sum := "f93dc71d432c79b7a0033d6be12050096f9ed114b1362cd499a1b91c9b4f70f1", func := "windrose/windroselaw07.LookupOrder", spec := "lookupOrder", unfollowed := true, recurses := true, apart := false }
def LookupOrderSaid : Prop := lookupOrderRow.holds Try.pinned (OpenSpec.ofChange lookupOrderSpec)

/-- ITS FALSE NEIGHBOUR: 'it returns false'. Refute it at one input. -/
def lookupOrderWrong : ChangeSpec := { name := "lookupOrder", fn := fun _ => fun
  | [d] => { results := [.lit (.bool false)], args := [d] }
  | _ => none }
def LookupOrderWrongFalsely : Prop := lookupOrderRow.holds Try.pinned (OpenSpec.ofChange lookupOrderWrong)

/-- 'windroselaw07.LookupTurn': WHATEVER THE INPUT: true; the input reads as it did. -/
def lookupTurnSpec : ChangeSpec := { name := "lookupTurn", fn := fun _ => fun
  | [d1, d2, d3] => { results := [.lit (.bool true)], args := [d1, d2, d3] }
  | _ => none }
def lookupTurnRow : OpenClaim := { program := "ytcoldgkhlkjjmaa", sum := "f93dc71d432c79b7a0033d6be12050096f9ed114b1362cd499a1b91c9b4f70f1", func := "windrose/windroselaw07.LookupTurn", spec := "lookupTurn", unfollowed := true, recurses := true, apart := false }
def LookupTurnSaid : Prop := lookupTurnRow.holds Try.pinned (OpenSpec.ofChange lookupTurnSpec)

/-- ITS FALSE NEIGHBOUR: 'it returns false'. Refute it at one input. -/
def lookupTurnWrong : ChangeSpec := { name := "lookupTurn", fn := fun _ => fun
  | [d1, d2, d3] => { results := [.lit (.bool false)], args := [d1, d2, d3] }
  | _ => none }
def LookupTurnWrongFalsely : Prop := lookupTurnRow.holds Try.pinned (OpenSpec.ofChange lookupTurnWrong)

/-- 'windroselaw15.ReferTells': WHATEVER THE INPUT: true; the input reads as it did. -/
def referTellsSpec : ChangeSpec := { name := "referTells", fn := fun _ => fun
  | [d1, d2] => { results := [.lit (.bool true)], args := [d1, d2] }
  | _ => none }
def referTellsRow : OpenClaim := { program := "ytcoldgkhlkjjmaa", sum := "f93dc71d432c79b7a0033d6be12050096f9ed114b1362cd499a1b91c9b4f70f1", func := "windrose/windroselaw15.ReferTells", spec := "referTells", inPlace := ["slices.overlaps[windrose/api.Held]", "slices.overlaps[windrose/api.Referred]"], unfollowed := true, recurses := true, apart := false }
def ReferTellsSaid : Prop := referTellsRow.holds Try.pinned (OpenSpec.ofChange referTellsSpec)

/-- ITS FALSE NEIGHBOUR: 'it returns false'. Refute it at one input. -/
def referTellsWrong : ChangeSpec := { name := "referTells", fn := fun _ => fun
  | [d1, d2] => { results := [.lit (.bool false)], args := [d1, d2] }
  | _ => none }
def ReferTellsWrongFalsely : Prop := referTellsRow.holds Try.pinned (OpenSpec.ofChange referTellsWrong)

/-- 'windroselaw15.ReferWhole': WHATEVER THE INPUT: true; the input reads as it did. -/
def referWholeSpec : ChangeSpec := { name := "referWhole", fn := fun _ => fun
  | [d] => { results := [.lit (.bool true)], args := [d] }
  | _ => none }
def referWholeRow : OpenClaim := { program := "ytcoldgkhlkjjmaa", sum := "f93dc71d432c79b7a0033d6be12050096f9ed114b1362cd499a1b91c9b4f70f1", func := "windrose/windroselaw15.ReferWhole", spec := "referWhole", inPlace := ["slices.overlaps[windrose/api.Held]", "slices.overlaps[windrose/api.Referred]"], unfollowed := true, recurses := true, apart := false }
def ReferWholeSaid : Prop := referWholeRow.holds Try.pinned (OpenSpec.ofChange referWholeSpec)

/-- ITS FALSE NEIGHBOUR: 'it returns false'. Refute it at one input. -/
def referWholeWrong : ChangeSpec := { name := "referWhole", fn := fun _ => fun
  | [d] => { results := [.lit (.bool false)], args := [d] }
  | _ => none }
def ReferWholeWrongFalsely : Prop := referWholeRow.holds Try.pinned (OpenSpec.ofChange referWholeWrong)

/-- 'windroselaw15.ReferTurn': WHATEVER THE INPUT: true; the input reads as it did. -/
def referTurnSpec : ChangeSpec := { name := "referTurn", fn := fun _ => fun
  | [d1, d2] => { results := [.lit (.bool true)], args := [d1, d2] }
  | _ => none }
def referTurnRow : OpenClaim := { program := "ytcoldgkhlkjjmaa", sum := "f93dc71d432c79b7a0033d6be12050096f9ed114b1362cd499a1b91c9b4f70f1", func := "windrose/windroselaw15.ReferTurn", spec := "referTurn", inPlace := ["slices.overlaps[windrose/api.Held]", "slices.overlaps[windrose/api.Referred]"], unfollowed := true, recurses := true, apart := false }
def ReferTurnSaid : Prop := referTurnRow.holds Try.pinned (OpenSpec.ofChange referTurnSpec)

/-- ITS FALSE NEIGHBOUR: 'it returns false'. Refute it at one input. -/
def referTurnWrong : ChangeSpec := { name := "referTurn", fn := fun _ => fun
  | [d1, d2] => { results := [.lit (.bool false)], args := [d1, d2] }
  | _ => none }
def ReferTurnWrongFalsely : Prop := referTurnRow.holds Try.pinned (OpenSpec.ofChange referTurnWrong)

/-- 'windroselaw15.ReferBack': WHATEVER THE INPUT: true; the input reads as it did. -/
def referBackSpec : ChangeSpec := { name := "referBack", fn := fun _ => fun
  | [d1, d2, d3] => { results := [.lit (.bool true)], args := [d1, d2, d3] }
  | _ => none }
def referBackRow : OpenClaim := { program := "ytcoldgkhlkjjmaa", sum := "f93dc71d432c79b7a0033d6be12050096f9ed114b1362cd499a1b91c9b4f70f1", func := "windrose/windroselaw15.ReferBack", spec := "referBack", inPlace := ["slices.overlaps[windrose/api.Held]", "slices.overlaps[windrose/api.Referred]"], unfollowed := true, recurses := true, apart := false }
def ReferBackSaid : Prop := referBackRow.holds Try.pinned (OpenSpec.ofChange referBackSpec)

/-- ITS FALSE NEIGHBOUR: 'it returns false'. Refute it at one input. -/
def referBackWrong : ChangeSpec := { name := "referBack", fn := fun _ => fun
  | [d1, d2, d3] => { results := [.lit (.bool false)], args := [d1, d2, d3] }
  | _ => none }
def ReferBackWrongFalsely : Prop := referBackRow.holds Try.pinned (OpenSpec.ofChange referBackWrong)

/- THE SECOND FORM. 'bulk': how many values and letters a reading holds, each counted each time it is reached (what is shared counts as often as it is met; a slice's spare places count too). A statement '..UptoSaid' is the law's where the arguments, and the package variables that the reading takes, are together of bulk at most 1048576: NARROWER than '..Said'. Prove '..Said' where nothing that the law and all that it calls make is longer than what came in: it says more and counts as full. Else prove '..UptoSaid'. A law counts once. -/
mutual
def uptoBulk {H : Type} : DataW H → Nat
  | .lit (.string bytes) => bytes.length + 1
  | .lit _ => 1
  | .nil => 1
  | .ptr d => uptoBulk d + 1
  | .slice elems spare => uptoBulkAll elems + uptoBulkAll spare + 1
  | .agg parts => uptoBulkAll parts + 1
  | .iface _ d => uptoBulk d + 1
  | .map entries => uptoBulkEntries entries + 1
  | .held _ => 1
def uptoBulkAll {H : Type} : List (DataW H) → Nat
  | [] => 0
  | d :: r => uptoBulk d + uptoBulkAll r
def uptoBulkEntries {H : Type} : List (Lit × DataW H) → Nat
  | [] => 0
  | x :: r => uptoBulkEntry x + uptoBulkEntries r
def uptoBulkEntry {H : Type} : Lit × DataW H → Nat
  | (.string bytes, d) => bytes.length + uptoBulk d + 1
  | (_, d) => uptoBulk d + 1
 end
def uptoSmall : (H : Type) → List (DataW H) → Bool := fun _ ds => decide (uptoBulkAll ds ≤ 1048576)
def OpenSpec.upto (s : _root_.Go.ChangeSpec) : _root_.Go.OpenSpec := { _root_.Go.OpenSpec.ofChange s with cond := some uptoSmall }

/-- 'windroselaw07.LookupTells', WHERE WHAT IT READS IS OF BULK AT MOST 1048576: true; the input reads as it did. -/
def lookupTellsUptoRow : OpenClaim := { program := "ytcoldgkhlkjjmaa", sum := "f93dc71d432c79b7a0033d6be12050096f9ed114b1362cd499a1b91c9b4f70f1", func := "windrose/windroselaw07.LookupTells", spec := "lookupTells", unfollowed := true, recurses := true, apart := false, narrowed := true }
def LookupTellsUptoSaid : Prop := lookupTellsUptoRow.holds Try.pinned (OpenSpec.upto lookupTellsSpec)

/-- 'windroselaw07.LookupGoes', WHERE WHAT IT READS IS OF BULK AT MOST 1048576: true; the input reads as it did. -/
def lookupGoesUptoRow : OpenClaim := { program := "ytcoldgkhlkjjmaa", sum := "f93dc71d432c79b7a0033d6be12050096f9ed114b1362cd499a1b91c9b4f70f1", func := "windrose/windroselaw07.LookupGoes", spec := "lookupGoes", unfollowed := true, recurses := true, apart := false, narrowed := true }
def LookupGoesUptoSaid : Prop := lookupGoesUptoRow.holds Try.pinned (OpenSpec.upto lookupGoesSpec)

/-- 'windroselaw07.LookupOrder', WHERE WHAT IT READS IS OF BULK AT MOST 1048576: true; the input reads as it did. -/
def lookupOrderUptoRow : OpenClaim := { program := "ytcoldgkhlkjjmaa", sum := "f93dc71d432c79b7a0033d6be12050096f9ed114b1362cd499a1b91c9b4f70f1", func := "windrose/windroselaw07.LookupOrder", spec := "lookupOrder", unfollowed := true, recurses := true, apart := false, narrowed := true }
def LookupOrderUptoSaid : Prop := lookupOrderUptoRow.holds Try.pinned (OpenSpec.upto lookupOrderSpec)

/-- 'windroselaw07.LookupTurn', WHERE WHAT IT READS IS OF BULK AT MOST 1048576: true; the input reads as it did. -/
def lookupTurnUptoRow : OpenClaim := { program := "ytcoldgkhlkjjmaa", sum := "f93dc71d432c79b7a0033d6be12050096f9ed114b1362cd499a1b91c9b4f70f1", func := "windrose/windroselaw07.LookupTurn", spec := "lookupTurn", unfollowed := true, recurses := true, apart := false, narrowed := true }
def LookupTurnUptoSaid : Prop := lookupTurnUptoRow.holds Try.pinned (OpenSpec.upto lookupTurnSpec)

/-- 'windroselaw15.ReferTells', WHERE WHAT IT READS IS OF BULK AT MOST 1048576: true; the input reads as it did. -/
def referTellsUptoRow : OpenClaim := { program := "ytcoldgkhlkjjmaa", sum := "f93dc71d432c79b7a0033d6be12050096f9ed114b1362cd499a1b91c9b4f70f1", func := "windrose/windroselaw15.ReferTells", spec := "referTells", inPlace := ["slices.overlaps[windrose/api.Held]", "slices.overlaps[windrose/api.Referred]"], unfollowed := true, recurses := true, apart := false, narrowed := true }
def ReferTellsUptoSaid : Prop := referTellsUptoRow.holds Try.pinned (OpenSpec.upto referTellsSpec)

/-- 'windroselaw15.ReferWhole', WHERE WHAT IT READS IS OF BULK AT MOST 1048576: true; the input reads as it did. -/
def referWholeUptoRow : OpenClaim := { program := "ytcoldgkhlkjjmaa", sum := "f93dc71d432c79b7a0033d6be12050096f9ed114b1362cd499a1b91c9b4f70f1", func := "windrose/windroselaw15.ReferWhole", spec := "referWhole", inPlace := ["slices.overlaps[windrose/api.Held]", "slices.overlaps[windrose/api.Referred]"], unfollowed := true, recurses := true, apart := false, narrowed := true }
def ReferWholeUptoSaid : Prop := referWholeUptoRow.holds Try.pinned (OpenSpec.upto referWholeSpec)

/-- 'windroselaw15.ReferTurn', WHERE WHAT IT READS IS OF BULK AT MOST 1048576: true; the input reads as it did. -/
def referTurnUptoRow : OpenClaim := { program := "ytcoldgkhlkjjmaa", sum := "f93dc71d432c79b7a0033d6be12050096f9ed114b1362cd499a1b91c9b4f70f1", func := "windrose/windroselaw15.ReferTurn", spec := "referTurn", inPlace := ["slices.overlaps[windrose/api.Held]", "slices.overlaps[windrose/api.Referred]"], unfollowed := true, recurses := true, apart := false, narrowed := true }
def ReferTurnUptoSaid : Prop := referTurnUptoRow.holds Try.pinned (OpenSpec.upto referTurnSpec)

/-- 'windroselaw15.ReferBack', WHERE WHAT IT READS IS OF BULK AT MOST 1048576: true; the input reads as it did. -/
def referBackUptoRow : OpenClaim := { program := "ytcoldgkhlkjjmaa", sum := "f93dc71d432c79b7a0033d6be12050096f9ed114b1362cd499a1b91c9b4f70f1", func := "windrose/windroselaw15.ReferBack", spec := "referBack", inPlace := ["slices.overlaps[windrose/api.Held]", "slices.overlaps[windrose/api.Referred]"], unfollowed := true, recurses := true, apart := false, narrowed := true }
def ReferBackUptoSaid : Prop := referBackUptoRow.holds Try.pinned (OpenSpec.upto referBackSpec)

end Rows
end Go.Proofs.Ytcoldgkhlkjjmaa
