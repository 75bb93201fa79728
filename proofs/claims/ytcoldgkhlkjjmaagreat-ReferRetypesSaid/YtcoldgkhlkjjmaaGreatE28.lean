/- The engine, part 28: a store among the floats of a drawn region that makes no memory of its own. -/
import Derived.Test.YtcoldgkhlkjjmaaGreatE27
namespace Go.Eng
open Go.RowKit
section
variable {P : Program} {f : FuncId} {ro : Option Nat} {n : Nat} {R : Value → World → Prop} {k : List Item} {ds : List Deferred} {env env0 : Env} {w0 w w' : World} {F : Nat → Prop}
variable {ops : Array Oper} {T : List Nat} {X Z : Nat → Prop} {N0 : Nat} {C0 : List HP} {D D' : List (Nat × Value)} {τ : List Nat}
variable {A : List AE} {σ : List (Nat × Nat)} {C : List HP}
variable {op : Op} {ty : TypeId} {pos : String} {af : Array Edge}
theorem JX_cu {i : Nat} {S : World → HP → Value → World → Prop} (ho : ops[i]? = some ⟨none, op, ty, pos, af, none⟩) (h : ∀ W X, N0 ≤ W.heap.size → St w0 F W (X :: C) → OpR P env ⟨none, op, ty, pos, af, none⟩ W (S W X)) (hS : ∀ W X v w', S W X v w' → Rl Z W w') (hnd : notDefer op = true)
    (hk : ∀ W X v w', N0 ≤ W.heap.size → St w0 F W (X :: C) → S W X v w' → JXat P f ro n R ops T w0 F Z N0 C0 A σ τ ((i, v) :: D) env0 k ds env w' X) : JX P f ro n R ops T w0 F Z N0 C0 A ((i, 1) :: σ) τ D env0 k ds env C :=
  JX_hard ho hnd (fun W X hN hs => OpG_none rfl (h W X hN hs)) hS hk
end
end Go.Eng
