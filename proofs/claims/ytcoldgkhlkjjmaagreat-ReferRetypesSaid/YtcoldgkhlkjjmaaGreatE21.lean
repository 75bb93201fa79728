/- The engine, part 21: holding a walk; appends in drawn regions; a base of one's own. -/
import Derived.Test.YtcoldgkhlkjjmaaGreatE20
namespace Go.Eng
open Go.RowKit
set_option linter.unusedVariables false
theorem ndt {p : Prop} [Decidable p] (h : ¬ p) : (!decide p) = true := by rw [decide_eq_false h]; rfl
theorem ndf {p : Prop} [Decidable p] (h : p) : (!decide p) = false := by rw [decide_eq_true h]; rfl
/-- What a guard or a condition asks. -/
theorem gb {p : Prop} (h : p := by first | assumption | rfl | exact decide_eq_true (by first | assumption | omega) | exact decide_eq_false (by first | assumption | omega) | exact ndt (by first | assumption | omega) | exact ndf (by first | assumption | omega)) : p := h
/-- What a bound asks. -/
theorem ob {p : Prop} (h : p := by first | assumption | omega) : p := h
theorem Frm.rlZ {F Z : Nat → Prop} {w w' : World} (h : Frm F w w') (hz : ∀ k, F k → Z k) : Rl Z w w' := ⟨h.os, h.tape, h.output, h.size, fun k hk hx => h.old k hk (fun hf => hx (hz k hf)), h.drawn⟩
theorem aj_block (id : Nat) {P : Program} {f : FuncId} {ro : Option Nat} {n : Nat} {R : Value → World → Prop} {k : List Item} {ds : List Deferred} {env : Env} {w : World} {c : Code} (h : J P f ro n R (.code (.block id c) :: k) ds env w) : J P f ro n R (.code (.block id c) :: k) ds env w := h
def Hold (p : Prop) : Prop := p
theorem hold {p : Prop} (h : Hold p) : p := h
theorem unhold {p : Prop} (h : p) : Hold p := h
theorem OpR_and {P : Program} {env : Env} {o : Oper} {w : World} {S : Value → World → Prop} {Q : Prop} (h : OpR P env o w S) (q : Q) : OpR P env o w (fun v w' => S v w' ∧ Q) := h.mono (fun _ _ s => ⟨s, q⟩)
/-- What is not the base's own is new. -/
theorem St.newA {w1 W : World} {A C : List HP} (hs : St w1 (Star C).foot W (A ++ C)) {c : HP} (hc : c ∈ A) : ∀ k, c.foot k → w1.heap.size ≤ k := fun k hk => by
  rcases (hs.foot c (List.mem_append_left _ hc) k hk).2 with ⟨d, hd, hdk⟩ | h
  · exact absurd hdk ((List.pairwise_append.1 hs.sep).2.2 c hc d hd k hk)
  · exact h
/-- append onto a slice of no capacity. -/
theorem OpR_append0 {P : Program} {env : Env} {dst : Option Tmp} {ty : TypeId} {pos : String} {af : Array Edge} {gd : Option (Nat × Bool)} {t t' e e' : Nat} {by_ : Nat} {z : Value} {ax : Option Addr} {m cx b : Nat} {news : List Value} {x y : Operand} {w1 w : World} {X : HP} {C : List HP} [U : Und P t (.slice e)] [U' : Und P t' (.slice e')] [Z : Sz P e 1] [B : Byt P e by_] [Zr : Zer P e z]
    (hs : St w1 (Star C).foot w (X :: Blk b (.cells #[] e (0, 0)) :: C)) (hx : ev env x = some (.slice (some ⟨b, 0, none⟩) 0 0)) (hy : ev env y = some (.slice ax m cx)) (hsrc : Src w ax m 1 news) (hp : 0 < m → PlainA ax) (hz : z.cells.size = 1) (hb : m * by_ ≤ 140737488355328) (h63 : m ≤ maxLen) :
    OpR P env ⟨dst, .call ⟨.builtin .append, #[x, y], #[t, t']⟩, ty, pos, af, gd⟩ w (fun v w' => (∃ a' c', v = .slice a' m c' ∧ St w1 (Star C).foot w' (X :: Row a' m c' e 1 news :: C) ∧ Frm (fun k => k = b) w w') ∧ w1.heap.size ≤ b) := by
  have h1 := St.toRow (hs.perm (List.Perm.swap _ _ _)) 0 0 0 1 (xs := []) (Nat.le_refl _) (Nat.zero_le _) (Nat.zero_le _) rfl
  refine OpR_and ((OpR_append (sz := 1) (e := e) (t := t) (t' := t') (by_ := by_) (z := z) (n := 0) (m := m) (cx := cx) (news := news) (xs := []) h1 hx hy hsrc hp hz (by rw [Nat.zero_add]; exact hb) (by omega)).mono ?_) (St.newA (A := [_, Blk b _]) hs (.tail _ (.head _)) b rfl)
  rintro v w' ⟨a', c', rfl, hs', hF, _⟩
  rw [Nat.zero_add, List.nil_append] at *
  exact ⟨a', c', rfl, hs'.perm (List.Perm.swap _ _ _), ⟨hF.os, hF.tape, hF.output, hF.size, fun k hk hne => hF.old k hk (fun hk2 => hne (by simpa [afoot, eq_comm] using hk2)), hF.drawn⟩⟩
theorem Fresh.rowFoot {w w' : World} {a : Option Addr} {n c e sz : Nat} {xs : List Value} {L : List HP} (h : Fresh w w' (Row a n c e sz xs :: L)) {N : Nat} (hN : N ≤ w.heap.size) : ∀ k, afoot a k → N ≤ k := fun k hk => Nat.le_trans hN (h.foot _ (.head _) k hk).1
theorem aj_drawr (id : Nat) {P : Program} {f : FuncId} {ro : Option Nat} {n : Nat} {R : Value → World → Prop} {k : List Item} {ds : List Deferred} {env : Env} {w : World} {ops : Array Oper} (h : J P f ro n R (.code (.region id ops true) :: k) ds env w) : J P f ro n R (.code (.region id ops true) :: k) ds env w := h
theorem aj_seqr (id : Nat) {P : Program} {f : FuncId} {ro : Option Nat} {n : Nat} {R : Value → World → Prop} {k : List Item} {ds : List Deferred} {env : Env} {w : World} {ops : Array Oper} {dr : Bool} {y : Code} (h : J P f ro n R (.code (.seq (.region id ops dr) y) :: k) ds env w) : J P f ro n R (.code (.seq (.region id ops dr) y) :: k) ds env w := h
end Go.Eng
