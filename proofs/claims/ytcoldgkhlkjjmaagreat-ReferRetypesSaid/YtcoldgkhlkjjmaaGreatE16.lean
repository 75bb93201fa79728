/- The engine, part 16: what is known of the slots that stay; loops and cuts that name only the slots that change. -/
import Derived.Test.YtcoldgkhlkjjmaaGreatE15
namespace Go.Eng
open Go.RowKit
theorem St.sel {w0 w : World} {F : Nat → Prop} {L : List HP} (h : St w0 F w L) (l : List Nat) (hl : l.Nodup) : St w0 F w (l.filterMap fun i => L[i]?) := by
  have hm : ∀ c ∈ l.filterMap (fun i => L[i]?), c ∈ L := fun c hc => by
    obtain ⟨i, _, hi⟩ := List.mem_filterMap.1 hc
    exact List.mem_of_getElem? hi
  refine ⟨h.frm, fun c hc => h.all c (hm c hc), fun c hc => h.foot c (hm c hc), List.pairwise_filterMap.2 (hl.imp fun {a b} hab x hx y hy k hk hky => ?_)⟩
  have ha := (List.getElem?_eq_some_iff.1 hx)
  have hb := (List.getElem?_eq_some_iff.1 hy)
  obtain ⟨ha1, rfl⟩ := ha
  obtain ⟨hb1, rfl⟩ := hb
  rcases Nat.lt_or_gt_of_ne hab with h1 | h1
  · exact List.pairwise_iff_getElem.1 h.sep a b ha1 hb1 h1 k hk hky
  · exact List.pairwise_iff_getElem.1 h.sep b a hb1 ha1 h1 k hky hk
section
variable {P : Program} {f : FuncId} {ro : Option Nat} {n : Nat} {R : Value → World → Prop} {k : List Item} {ds : List Deferred} {env : Env} {w : World}
/-- A loop, of which the slots of fx stay. -/
theorem J_loopK {α : Type} (fx : Env) (V : α → Env) (I : α → World → Prop) (μ : α → Nat) (x0 : α) {x : Code} (h0 : I x0 w) (hs : Sub (V x0 ++ fx) env)
    (round : ∀ g w, I g w → (∀ g' w' env', I g' w' → μ g' < μ g → Sub (V g' ++ fx) env' → J P f ro n R (.inLoop x :: k) ds env' w') → J P f ro n R (.code x :: .inLoop x :: k) ds (V g ++ fx) w) :
    J P f ro n R (.code (.loop x) :: k) ds env w :=
  J_loop I (fun g => V g ++ fx) μ x0 h0 hs (fun g w hi ih => round g w hi (fun g' w' _ hi' hlt hsub => .sub hsub (ih g' w' hi' hlt)))
/-- Many ways through c come to one goal, told by a ghost; the slots of fx stay. -/
theorem J_cutK {γ : Type} {c : Code} (fx : Env) (_ : Sub fx env) (V : γ → Env) (K : γ → World → Prop)
    (h : ∀ R k, (∀ g env' w', K g w' → Sub (V g ++ fx) env' → J P f ro n R k ds env' w') → J P f ro n R (.code c :: k) ds env w)
    (hk : ∀ g w', K g w' → J P f ro n R k ds (V g ++ fx) w') : J P f ro n R (.code c :: k) ds env w :=
  h R k (fun g _ w' hK hsub => .sub hsub (hk g w' hK))
end
/-! ### Shapes: a call of function K is next -/
section
variable {P : Program} {f : FuncId} {ro : Option Nat} {n : Nat} {R : Value → World → Prop} {k : List Item} {ds : List Deferred} {env env0 : Env} {w w0 : World} {F : Nat → Prop}
variable {ops : Array Oper} {os : List Oper} {T : List Nat} {Z : Nat → Prop} {N0 : Nat} {C0 C : List HP} {D : List (Nat × Value)} {τ : List Nat} {A : List AE} {σ : List (Nat × Nat)} {ty : TypeId} {pos : String} {af : Array Edge} {args : Array Operand} {at_ : Array TypeId}
theorem al_call (K : Nat) {t : Nat} (h : JL P f ro n R ops (⟨some t, .call ⟨.value (.func K), args, at_⟩, ty, pos, af, none⟩ :: os) k ds env w) : JL P f ro n R ops (⟨some t, .call ⟨.value (.func K), args, at_⟩, ty, pos, af, none⟩ :: os) k ds env w := h
theorem al_callu (K : Nat) (h : JL P f ro n R ops (⟨none, .call ⟨.value (.func K), args, at_⟩, ty, pos, af, none⟩ :: os) k ds env w) : JL P f ro n R ops (⟨none, .call ⟨.value (.func K), args, at_⟩, ty, pos, af, none⟩ :: os) k ds env w := h
theorem al_callg (K : Nat) {t : Nat} {g : Nat × Bool} (h : JL P f ro n R ops (⟨some t, .call ⟨.value (.func K), args, at_⟩, ty, pos, af, some g⟩ :: os) k ds env w) : JL P f ro n R ops (⟨some t, .call ⟨.value (.func K), args, at_⟩, ty, pos, af, some g⟩ :: os) k ds env w := h
theorem JX_cF (K : Nat) {i t : Nat} {S : World → HP → Value → World → Prop} (ho : ops[i]? = some ⟨some t, .call ⟨.value (.func K), args, at_⟩, ty, pos, af, none⟩) (h : ∀ W X, N0 ≤ W.heap.size → St w0 F W (X :: C) → OpR P env ⟨some t, .call ⟨.value (.func K), args, at_⟩, ty, pos, af, none⟩ W (S W X)) (hS : ∀ W X v w', S W X v w' → Ext W w')
    (hk : ∀ W X v w', N0 ≤ W.heap.size → St w0 F W (X :: C) → S W X v w' → JXat P f ro n R ops T w0 F Z N0 C0 A σ τ ((i, v) :: D) env0 k ds ((t, v) :: env) w' X) : JX P f ro n R ops T w0 F Z N0 C0 A ((i, 1) :: σ) τ D env0 k ds env C :=
  JX_c ho h (fun W X v w' s => (hS W X v w' s).rl) rfl hk
theorem JX_cFg (K : Nat) {i t j : Nat} {c b : Bool} {S : World → HP → Value → World → Prop} (ho : ops[i]? = some ⟨some t, .call ⟨.value (.func K), args, at_⟩, ty, pos, af, some (j, c)⟩) (hv : gval ops env j = some b) (hb : b = c) (h : ∀ W X, N0 ≤ W.heap.size → St w0 F W (X :: C) → OpR P env ⟨some t, .call ⟨.value (.func K), args, at_⟩, ty, pos, af, some (j, c)⟩ W (S W X)) (hS : ∀ W X v w', S W X v w' → Ext W w')
    (hk : ∀ W X v w', N0 ≤ W.heap.size → St w0 F W (X :: C) → S W X v w' → JXat P f ro n R ops T w0 F Z N0 C0 A σ τ ((i, v) :: D) env0 k ds ((t, v) :: env) w' X) : JX P f ro n R ops T w0 F Z N0 C0 A ((i, 1) :: σ) τ D env0 k ds env C :=
  JX_c_on ho hv hb h (fun W X v w' s => (hS W X v w' s).rl) rfl hk
end
theorem bool_contra {b c : Bool} {G : Prop} (h : b = c) (h2 : b = !c) : G := by subst h; cases b <;> simp at h2
/-- The data of cells that are held. -/
class DatsAt (L : List HP) (cells : List Value) (α : outParam Type) (R : outParam (Nat → Prop)) (d : outParam (Ty α)) (xs : outParam (List α)) : Prop where mem : Dats R d cells xs ∈ L
instance (priority := low) DatsAt.tail {L : List HP} {c : HP} {cells : List Value} {α : Type} {R : Nat → Prop} {d : Ty α} {xs : List α} [m : DatsAt L cells α R d xs] : DatsAt (c :: L) cells α R d xs := ⟨List.mem_cons_of_mem _ m.mem⟩
instance DatsAt.head {L : List HP} {cells : List Value} {α : Type} {R : Nat → Prop} {d : Ty α} {xs : List α} : DatsAt (Dats R d cells xs :: L) cells α R d xs := ⟨List.mem_cons_self⟩
theorem St.dats {w0 w : World} {F : Nat → Prop} {L : List HP} (h : St w0 F w L) (cells : List Value) {α : Type} {R : Nat → Prop} {d : Ty α} {xs : List α} [m : DatsAt L cells α R d xs] : DatsV R d w cells xs := h.all _ m.mem
/-- A row that is held, over data that is held, as it is read. -/
theorem St.slRow {w0 w : World} {F : Nat → Prop} {L : List HP} (h : St w0 F w L) (a : Option Addr) (n c : Nat) {e : Nat} {cells : List Value} {f : HP → List HP} [RowAt L a n c e 1 cells f] {α : Type} {R : Nat → Prop} {d : Ty α} {xs : List α} [DatsAt L cells α R d xs] (hz : d.sz = 1) : Sl d All w a n c xs :=
  (RowV.slD (h.row a n c) (h.dats cells) hz).weak (fun _ _ => trivial)
end Go.Eng
