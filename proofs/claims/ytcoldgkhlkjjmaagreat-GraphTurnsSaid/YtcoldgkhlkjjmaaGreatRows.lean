/-
  No cell of these rows narrows 'for every input' (looked for: loops, veiled, ifaces, maps, wideKeys, modest, calm, conditions, laid).
  DERIVED. THE GIVEN ROWS OF THIS SEAT. 7 by the template 'for every input the law returns true; each argument reads behind the call as it read before'; 0 by the template 'total and deterministic' (their statements: YtcoldgkhlkjjmaaGreatTotals.lean).
  GIVEN WITH THE SEED: the statements are not yours to turn. If you find one false, say at which input.
  Laid BY PROGRAM, IN A SANDBOX (cutbox-rows.mjs): the forced cells as the released guide's own fill.sh prints them over the translation ec12fe52dfb3720b… (all of the seat's roots in one cut). By AI agents, Wed Nov 11 2026. No macro, syntax, notation, axiom, sorry.
-/
import Derived.Test.YtcoldgkhlkjjmaaGreatChecked
import GoSem.Claim
import GoSem.ClaimJoined
import GoSem.ClaimMapViews
import Derived.JoinedTies
import Derived.KernelRfl
namespace Go.Proofs.YtcoldgkhlkjjmaaGreat
/- THE CELL 'sum', in the pinned program and in every row, IS THE sha256 OF THE DUMP (.gsa) THAT YtcoldgkhlkjjmaaGreatProg.lean LOADS. Nothing in Lean hashes anything: it is a label: what it is worth is what the hold of that sum in a sandbox is worth. -/
noncomputable def Tryz.pinned : Pinned := { name := "ytcoldgkhlkjjmaagreat", sum := "ec12fe52dfb3720b392dfd5566160f50229bd9b6ea29e49ee5effa5dae3c8bf6", checked := Tryz.checked }
namespace Rows
def none {H : Type} : Left H := { results := [], args := [] }

/-- 'windroselaw15.ReferGoes': WHATEVER THE INPUT: true; the input reads as it did. -/
def referGoesSpec : ChangeSpec := { name := "referGoes", fn := fun _ => fun
  | [d1, d2, d3] => { results := [.lit (.bool true)], args := [d1, d2, d3] }
  | _ => none }
def referGoesRow : OpenClaim := { program := "ytcoldgkhlkjjmaagreat", sum := "ec12fe52dfb3720b392dfd5566160f50229bd9b6ea29e49ee5effa5dae3c8bf6", func := "windrose/windroselaw15.ReferGoes", spec := "referGoes", inPlace := ["slices.overlaps[windrose/api.Held]", "slices.overlaps[windrose/api.Referred]"], unfollowed := true, recurses := true, apart := false }
def ReferGoesSaid : Prop := referGoesRow.holds Tryz.pinned (OpenSpec.ofChange referGoesSpec)

/-- ITS FALSE NEIGHBOUR: 'it returns false'. Refute it at one input. -/
def referGoesWrong : ChangeSpec := { name := "referGoes", fn := fun _ => fun
  | [d1, d2, d3] => { results := [.lit (.bool false)], args := [d1, d2, d3] }
  | _ => none }
def ReferGoesWrongFalsely : Prop := referGoesRow.holds Tryz.pinned (OpenSpec.ofChange referGoesWrong)

/-- 'windroselaw15.ReferRetypes': WHATEVER THE INPUT: true; the input reads as it did. -/
def referRetypesSpec : ChangeSpec := { name := "referRetypes", fn := fun _ => fun
  | [d1, d2, d3] => { results := [.lit (.bool true)], args := [d1, d2, d3] }
  | _ => none }
def referRetypesRow : OpenClaim := { program := "ytcoldgkhlkjjmaagreat", sum := "ec12fe52dfb3720b392dfd5566160f50229bd9b6ea29e49ee5effa5dae3c8bf6", func := "windrose/windroselaw15.ReferRetypes", spec := "referRetypes", inPlace := ["slices.overlaps[windrose/api.Held]", "slices.overlaps[windrose/api.Referred]"], unfollowed := true, recurses := true, apart := false }
def ReferRetypesSaid : Prop := referRetypesRow.holds Tryz.pinned (OpenSpec.ofChange referRetypesSpec)

/-- ITS FALSE NEIGHBOUR: 'it returns false'. Refute it at one input. -/
def referRetypesWrong : ChangeSpec := { name := "referRetypes", fn := fun _ => fun
  | [d1, d2, d3] => { results := [.lit (.bool false)], args := [d1, d2, d3] }
  | _ => none }
def ReferRetypesWrongFalsely : Prop := referRetypesRow.holds Tryz.pinned (OpenSpec.ofChange referRetypesWrong)

/-- 'windroselaw12.GraphTurns': WHATEVER THE INPUT: true; the input reads as it did. -/
def graphTurnsSpec : ChangeSpec := { name := "graphTurns", fn := fun _ => fun
  | [d1, d2] => { results := [.lit (.bool true)], args := [d1, d2] }
  | _ => none }
def graphTurnsRow : OpenClaim := { program := "ytcoldgkhlkjjmaagreat", sum := "ec12fe52dfb3720b392dfd5566160f50229bd9b6ea29e49ee5effa5dae3c8bf6", func := "windrose/windroselaw12.GraphTurns", spec := "graphTurns", inPlace := ["slices.overlaps[windrose/api.Step]"], unfollowed := true, recurses := true, apart := false }
def GraphTurnsSaid : Prop := graphTurnsRow.holds Tryz.pinned (OpenSpec.ofChange graphTurnsSpec)

/-- ITS FALSE NEIGHBOUR: 'it returns false'. Refute it at one input. -/
def graphTurnsWrong : ChangeSpec := { name := "graphTurns", fn := fun _ => fun
  | [d1, d2] => { results := [.lit (.bool false)], args := [d1, d2] }
  | _ => none }
def GraphTurnsWrongFalsely : Prop := graphTurnsRow.holds Tryz.pinned (OpenSpec.ofChange graphTurnsWrong)

/-- 'windroselaw12.GraphBack': WHATEVER THE INPUT: true; the input reads as it did. -/
def graphBackSpec : ChangeSpec := { name := "graphBack", fn := fun _ => fun
  | [d1, d2, d3] => { results := [.lit (.bool true)], args := [d1, d2, d3] }
  | _ => none }
def graphBackRow : OpenClaim := { program := "ytcoldgkhlkjjmaagreat", sum := "ec12fe52dfb3720b392dfd5566160f50229bd9b6ea29e49ee5effa5dae3c8bf6", func := "windrose/windroselaw12.GraphBack", spec := "graphBack", inPlace := ["slices.overlaps[windrose/api.Step]"], unfollowed := true, recurses := true, apart := false }
def GraphBackSaid : Prop := graphBackRow.holds Tryz.pinned (OpenSpec.ofChange graphBackSpec)

/-- ITS FALSE NEIGHBOUR: 'it returns false'. Refute it at one input. -/
def graphBackWrong : ChangeSpec := { name := "graphBack", fn := fun _ => fun
  | [d1, d2, d3] => { results := [.lit (.bool false)], args := [d1, d2, d3] }
  | _ => none }
def GraphBackWrongFalsely : Prop := graphBackRow.holds Tryz.pinned (OpenSpec.ofChange graphBackWrong)

/-- 'windroselaw12.GraphDrops': WHATEVER THE INPUT: true; the input reads as it did. -/
def graphDropsSpec : ChangeSpec := { name := "graphDrops", fn := fun _ => fun
  | [d1, d2] => { results := [.lit (.bool true)], args := [d1, d2] }
  | _ => none }
def graphDropsRow : OpenClaim := { program := "ytcoldgkhlkjjmaagreat", sum := "ec12fe52dfb3720b392dfd5566160f50229bd9b6ea29e49ee5effa5dae3c8bf6", func := "windrose/windroselaw12.GraphDrops", spec := "graphDrops", inPlace := ["slices.overlaps[windrose/api.Step]"], unfollowed := true, recurses := true, apart := false }
def GraphDropsSaid : Prop := graphDropsRow.holds Tryz.pinned (OpenSpec.ofChange graphDropsSpec)

/-- ITS FALSE NEIGHBOUR: 'it returns false'. Refute it at one input. -/
def graphDropsWrong : ChangeSpec := { name := "graphDrops", fn := fun _ => fun
  | [d1, d2] => { results := [.lit (.bool false)], args := [d1, d2] }
  | _ => none }
def GraphDropsWrongFalsely : Prop := graphDropsRow.holds Tryz.pinned (OpenSpec.ofChange graphDropsWrong)

/-- 'windroselaw12.GraphMay': WHATEVER THE INPUT: true; the input reads as it did. -/
def graphMaySpec : ChangeSpec := { name := "graphMay", fn := fun _ => fun
  | [d1, d2, d3] => { results := [.lit (.bool true)], args := [d1, d2, d3] }
  | _ => none }
def graphMayRow : OpenClaim := { program := "ytcoldgkhlkjjmaagreat", sum := "ec12fe52dfb3720b392dfd5566160f50229bd9b6ea29e49ee5effa5dae3c8bf6", func := "windrose/windroselaw12.GraphMay", spec := "graphMay", inPlace := ["slices.overlaps[windrose/api.Step]"], unfollowed := true, recurses := true, apart := false }
def GraphMaySaid : Prop := graphMayRow.holds Tryz.pinned (OpenSpec.ofChange graphMaySpec)

/-- ITS FALSE NEIGHBOUR: 'it returns false'. Refute it at one input. -/
def graphMayWrong : ChangeSpec := { name := "graphMay", fn := fun _ => fun
  | [d1, d2, d3] => { results := [.lit (.bool false)], args := [d1, d2, d3] }
  | _ => none }
def GraphMayWrongFalsely : Prop := graphMayRow.holds Tryz.pinned (OpenSpec.ofChange graphMayWrong)

/-- 'windroselaw12.GraphOrder': WHATEVER THE INPUT: true; the input reads as it did. -/
def graphOrderSpec : ChangeSpec := { name := "graphOrder", fn := fun _ => fun
  | [d1, d2] => { results := [.lit (.bool true)], args := [d1, d2] }
  | _ => none }
def graphOrderRow : OpenClaim := { program := "ytcoldgkhlkjjmaagreat", sum := "ec12fe52dfb3720b392dfd5566160f50229bd9b6ea29e49ee5effa5dae3c8bf6", func := "windrose/windroselaw12.GraphOrder", spec := "graphOrder", inPlace := ["slices.overlaps[windrose/api.Step]"], unfollowed := true, recurses := true, apart := false }
def GraphOrderSaid : Prop := graphOrderRow.holds Tryz.pinned (OpenSpec.ofChange graphOrderSpec)

/-- ITS FALSE NEIGHBOUR: 'it returns false'. Refute it at one input. -/
def graphOrderWrong : ChangeSpec := { name := "graphOrder", fn := fun _ => fun
  | [d1, d2] => { results := [.lit (.bool false)], args := [d1, d2] }
  | _ => none }
def GraphOrderWrongFalsely : Prop := graphOrderRow.holds Tryz.pinned (OpenSpec.ofChange graphOrderWrong)

/- THE SECOND FORM. 'bulk': how many values and letters a reading holds, each counted each time it is reached (what is shared counts as often as it is met; a slice's spare places count too). A statement '..UptoSaid' is the law's where the arguments, and the package variables that the reading takes, are together of bulk at most 1048576: NARROWER than '..Said'. Prove '..Said' where nothing that the law and all that it calls make is longer than what came in: it says more and counts as full. Else prove '..UptoSaid'. A law counts once. -/
mutual
def uptoBulk {H : Type} : DataW H → Nat
  | .lit (.string bytes) => bytes.length + 1
  | .lit _ => 1
  | .nil => 1
  | .ptr d => uptoBulk d + 1
  | .slice elems spare => uptoBulkAll elems + uptoBulkAll spare + 1
  | .agg parts => uptoBulkAll parts + 1
  | .iface _ d => uptoBulk d + 1
  | .map entries => uptoBulkEntries entries + 1
  | .held _ => 1
def uptoBulkAll {H : Type} : List (DataW H) → Nat
  | [] => 0
  | d :: r => uptoBulk d + uptoBulkAll r
def uptoBulkEntries {H : Type} : List (Lit × DataW H) → Nat
  | [] => 0
  | x :: r => uptoBulkEntry x + uptoBulkEntries r
def uptoBulkEntry {H : Type} : Lit × DataW H → Nat
  | (.string bytes, d) => bytes.length + uptoBulk d + 1
  | (_, d) => uptoBulk d + 1
 end
def uptoSmall : (H : Type) → List (DataW H) → Bool := fun _ ds => decide (uptoBulkAll ds ≤ 1048576)
def OpenSpec.upto (s : _root_.Go.ChangeSpec) : _root_.Go.OpenSpec := { _root_.Go.OpenSpec.ofChange s with cond := some uptoSmall }

/-- 'windroselaw15.ReferGoes', WHERE WHAT IT READS IS OF BULK AT MOST 1048576: true; the input reads as it did. -/
def referGoesUptoRow : OpenClaim := { program := "ytcoldgkhlkjjmaagreat", sum := "ec12fe52dfb3720b392dfd5566160f50229bd9b6ea29e49ee5effa5dae3c8bf6", func := "windrose/windroselaw15.ReferGoes", spec := "referGoes", inPlace := ["slices.overlaps[windrose/api.Held]", "slices.overlaps[windrose/api.Referred]"], unfollowed := true, recurses := true, apart := false, narrowed := true }
def ReferGoesUptoSaid : Prop := referGoesUptoRow.holds Tryz.pinned (OpenSpec.upto referGoesSpec)

/-- 'windroselaw15.ReferRetypes', WHERE WHAT IT READS IS OF BULK AT MOST 1048576: true; the input reads as it did. -/
def referRetypesUptoRow : OpenClaim := { program := "ytcoldgkhlkjjmaagreat", sum := "ec12fe52dfb3720b392dfd5566160f50229bd9b6ea29e49ee5effa5dae3c8bf6", func := "windrose/windroselaw15.ReferRetypes", spec := "referRetypes", inPlace := ["slices.overlaps[windrose/api.Held]", "slices.overlaps[windrose/api.Referred]"], unfollowed := true, recurses := true, apart := false, narrowed := true }
def ReferRetypesUptoSaid : Prop := referRetypesUptoRow.holds Tryz.pinned (OpenSpec.upto referRetypesSpec)

/-- 'windroselaw12.GraphTurns', WHERE WHAT IT READS IS OF BULK AT MOST 1048576: true; the input reads as it did. -/
def graphTurnsUptoRow : OpenClaim := { program := "ytcoldgkhlkjjmaagreat", sum := "ec12fe52dfb3720b392dfd5566160f50229bd9b6ea29e49ee5effa5dae3c8bf6", func := "windrose/windroselaw12.GraphTurns", spec := "graphTurns", inPlace := ["slices.overlaps[windrose/api.Step]"], unfollowed := true, recurses := true, apart := false, narrowed := true }
def GraphTurnsUptoSaid : Prop := graphTurnsUptoRow.holds Tryz.pinned (OpenSpec.upto graphTurnsSpec)

/-- 'windroselaw12.GraphBack', WHERE WHAT IT READS IS OF BULK AT MOST 1048576: true; the input reads as it did. -/
def graphBackUptoRow : OpenClaim := { program := "ytcoldgkhlkjjmaagreat", sum := "ec12fe52dfb3720b392dfd5566160f50229bd9b6ea29e49ee5effa5dae3c8bf6", func := "windrose/windroselaw12.GraphBack", spec := "graphBack", inPlace := ["slices.overlaps[windrose/api.Step]"], unfollowed := true, recurses := true, apart := false, narrowed := true }
def GraphBackUptoSaid : Prop := graphBackUptoRow.holds Tryz.pinned (OpenSpec.upto graphBackSpec)

/-- 'windroselaw12.GraphDrops', WHERE WHAT IT READS IS OF BULK AT MOST 1048576: true; the input reads as it did. -/
def graphDropsUptoRow : OpenClaim := { program := "ytcoldgkhlkjjmaagreat", sum := "ec12fe52dfb3720b392dfd5566160f50229bd9b6ea29e49ee5effa5dae3c8bf6", func := "windrose/windroselaw12.GraphDrops", spec := "graphDrops", inPlace := ["slices.overlaps[windrose/api.Step]"], unfollowed := true, recurses := true, apart := false, narrowed := true }
def GraphDropsUptoSaid : Prop := graphDropsUptoRow.holds Tryz.pinned (OpenSpec.upto graphDropsSpec)

/-- 'windroselaw12.GraphMay', WHERE WHAT IT READS IS OF BULK AT MOST 1048576: true; the input reads as it did. -/
def graphMayUptoRow : OpenClaim := { program := "ytcoldgkhlkjjmaagreat", sum := "ec12fe52dfb3720b392dfd5566160f50229bd9b6ea29e49ee5effa5dae3c8bf6", func := "windrose/windroselaw12.GraphMay", spec := "graphMay", inPlace := ["slices.overlaps[windrose/api.Step]"], unfollowed := true, recurses := true, apart := false, narrowed := true }
def GraphMayUptoSaid : Prop := graphMayUptoRow.holds Tryz.pinned (OpenSpec.upto graphMaySpec)

/-- 'windroselaw12.GraphOrder', WHERE WHAT IT READS IS OF BULK AT MOST 1048576: true; the input reads as it did. -/
def graphOrderUptoRow : OpenClaim := { program := "ytcoldgkhlkjjmaagreat", sum := "ec12fe52dfb3720b392dfd5566160f50229bd9b6ea29e49ee5effa5dae3c8bf6", func := "windrose/windroselaw12.GraphOrder", spec := "graphOrder", inPlace := ["slices.overlaps[windrose/api.Step]"], unfollowed := true, recurses := true, apart := false, narrowed := true }
def GraphOrderUptoSaid : Prop := graphOrderUptoRow.holds Tryz.pinned (OpenSpec.upto graphOrderSpec)

end Rows
end Go.Proofs.YtcoldgkhlkjjmaaGreat
