/- The texts E1, E2, E3, E4, E5, E6, E7, E8, E9, E10, E11, E12, I, E13, E14, E15, E16, joined: what of them serves. -/
import Derived.AtR
import Derived.Orders
import Derived.Below
import Derived.Tactics
import Derived.IntWalk
import Derived.KernelRfl
import Derived.Laws.Entries
import Derived.Laws.Cells
import Derived.Laws.Append
import Derived.Laws.CopyRow
import Derived.Laws.Rows
import Derived.Laws.Tables
import Derived.Laws.World
import Derived.Laws.MakeOwn
import Derived.Laws.AppendOwn
import Derived.RangeFuncIn
import Derived.Test.YtcoldgkhlkjjmaaGreatProg
import Derived.ProofKit
import Derived.Deep.Slices
import Derived.Lib.SmallJoins
namespace Go.Eng
theorem zmm {P : Prop} (h : P := by repeat (first | exact List.Mem.head _ | apply List.Mem.tail)) : P := h
theorem zss {P : Prop} (h : P := by repeat' (first | exact trivial | exact rfl | apply And.intro)) : P := h
theorem zcc {α : Type} : (∀ (a : α) (xs ys : List α), (a :: xs) ++ ys = a :: (xs ++ ys)) ∧ ∀ xs : List α, [] ++ xs = xs := ⟨fun _ _ _ => rfl, fun _ => rfl⟩
end Go.Eng
section
namespace Go.Eng
abbrev Env := List (Nat × Value)
def Env.get : Env → Nat → Option Value
  | [], _ => none | (s, v) :: r, t => bif Nat.beq s t then some v else Env.get r t
def Match (tmps : Array Value) (e : Env) : Prop := ∀ t v, Env.get e t = some v → tmps[t]? = some v
def ev (e : Env) : Operand → Option Value
  | .tmp t => Env.get e t
  | .const v => some v
  | .global g => some (.pointer (some ⟨g, 0, none⟩))
  | .func f => some (.func (.func f) #[] #[])
def put (e : Env) (d : Option Nat) (v : Value) : Env := match d with | none => e | some t => (t, v) :: e
def Sub : Env → Env → Prop
  | [], _ => True | (t, v) :: r, e => Env.get e t = some v ∧ Sub r e
theorem Env.get_cons (s : Nat) (v : Value) (r : Env) (t : Nat) : Env.get ((s, v) :: r) t = if s = t then some v else Env.get r t := by
  simp only [Env.get]
  by_cases h : s = t
  · subst h; simp
  · have : Nat.beq s t = false := by
      cases hb : Nat.beq s t
      · rfl
      · exact absurd (Nat.eq_of_beq_eq_true hb) h
    simp [this, h]
theorem Sub.get {e e' : Env} (h : Sub e e') : ∀ t v, Env.get e t = some v → Env.get e' t = some v := by
  induction e with
  | nil => intro t v h'; simp [Env.get] at h'
  | cons x r ih =>
    obtain ⟨s, u⟩ := x
    intro t v h'
    rw [Env.get_cons] at h'
    by_cases hs : s = t
    · subst hs; simp at h'; subst h'; exact h.1
    · simp [hs] at h'; exact ih h.2 t v h'
theorem Match.sub {tmps : Array Value} {e e' : Env} (h : Match tmps e') (hs : Sub e e') : Match tmps e := fun t v hv => h t v (hs.get t v hv)
theorem Match.eval {tmps : Array Value} {e : Env} (h : Match tmps e) {ds : List Deferred} {x : Operand} {v : Value} (hx : ev e x = some v) : Act.eval ⟨tmps, ds⟩ x = v := by
  cases x with
  | tmp t => simp [Act.eval, Array.getD_eq_getD_getElem?, h t v hx]
  | const u => simpa [ev, Act.eval] using hx
  | global g => simpa [ev, Act.eval] using hx
  | func f => simpa [ev, Act.eval] using hx
theorem Match.put {tmps : Array Value} {e : Env} (h : Match tmps e) {d : Option Nat} (hd : ∀ t, d = some t → t < tmps.size) (v : Value) :
    Match (Act.put ⟨tmps, []⟩ d v).tmps (put e d v) := by
  cases d with
  | none => exact h
  | some s =>
    intro t u ht
    have hs := hd s rfl
    simp only [Eng.put] at ht
    rw [Env.get_cons] at ht
    simp only [Act.put]
    by_cases hst : s = t
    · subst hst; simp at ht; subst ht; simp [hs]
    · simp [hst] at ht
      rw [Array.getElem?_setIfInBounds_ne hst]
      exact h t u ht
theorem iN (tmps : Array Value) (ds : List Deferred) (d : Option Nat) (v : Value) : (Act.put ⟨tmps, ds⟩ d v).tmps.size = tmps.size := by
  cases d <;> simp [Act.put]
theorem aAg (tmps : Array Value) (ds : List Deferred) (d : Option Nat) (v : Value) : Act.put ⟨tmps, ds⟩ d v = ⟨(Act.put ⟨tmps, []⟩ d v).tmps, ds⟩ := by
  cases d <;> simp [Act.put]
def base (f : FuncId) (ro : Option Nat) : Frame := { (default : Frame) with fn := f, kind := .normal, roundOf := ro }
def Fin (P : Program) (f : FuncId) (ro : Option Nat) (fr : Frame) (cs : List Frame) (w : World) (v : Value) (w' : World) : Prop :=
  match ro with
  | none => fr.fn = f ∧ w' = w ∧ fr.leaving P w (.returned v)
  | some _ => ∀ c r, cs = c :: r → Steps P (lone fr cs w) (lone (c.finish v) r w')
def J (P : Program) (f : FuncId) (ro : Option Nat) (n : Nat) (R : Value → World → Prop) (todo : List Item) (ds : List Deferred) (env : Env) (w : World) : Prop :=
  ∀ (tmps : Array Value) (cs : List Frame), tmps.size = n → Match tmps env →
    ∃ v w' fr w'', R v w' ∧ Steps P (lone ((base f ro).atR ⟨tmps, ds⟩ todo) cs w) (lone fr cs w'') ∧ Fin P f ro fr cs w'' v w'
section
variable {P : Program} {f : FuncId} {ro : Option Nat} {n : Nat} {R : Value → World → Prop} {todo todo' k : List Item} {ds ds' : List Deferred} {env env' : Env} {w w' : World}
theorem J.step (h : ∀ (tmps : Array Value) (cs : List Frame), tmps.size = n → Match tmps env → ∃ tmps' : Array Value, tmps'.size = n ∧ Match tmps' env' ∧
      Steps P (lone ((base f ro).atR ⟨tmps, ds⟩ todo) cs w) (lone ((base f ro).atR ⟨tmps', ds'⟩ todo') cs w'))
    (hj : J P f ro n R todo' ds' env' w') : J P f ro n R todo ds env w := by
  intro tmps cs hn hm
  obtain ⟨tmps', hn', hm', hs⟩ := h tmps cs hn hm
  obtain ⟨v, u, fr, w'', hR, hs', hfin⟩ := hj tmps' cs hn' hm'
  exact ⟨v, u, fr, w'', hR, hs.trans hs', hfin⟩
theorem J.same (h : ∀ (tmps : Array Value), tmps.size = n → Match tmps env → ∀ cs, Steps P (lone ((base f ro).atR ⟨tmps, ds⟩ todo) cs w) (lone ((base f ro).atR ⟨tmps, ds'⟩ todo') cs w'))
    (hj : J P f ro n R todo' ds' env w') : J P f ro n R todo ds env w :=
  J.step (fun tmps cs hn hm => ⟨tmps, hn, hm, h tmps hn hm cs⟩) hj
theorem J.sub (hs : Sub env' env) (hj : J P f ro n R todo ds env' w) : J P f ro n R todo ds env w := fun tmps cs hn hm => hj tmps cs hn (hm.sub hs)
theorem aV (h : J P f ro n R k ds env w) : J P f ro n R (.code .skip :: k) ds env w := .same (fun _ _ _ _ => .one stepR_skip) h
theorem tF {l : Nat} (h : J P f ro n R k ds env w) : J P f ro n R (.code (.label l) :: k) ds env w := .same (fun _ _ _ _ => .one stepR_label) h
theorem aW {id : Nat} (h : J P f ro n R k ds env w) : J P f ro n R (.inBlock id :: k) ds env w := .same (fun _ _ _ _ => .one stepR_inBlock) h
theorem vG {b : Frame} {a : Act} {cs : List Frame} {x : Code} : step P (lone (b.atR a (.code (.scope x) :: k)) cs w) = .next (lone (b.atR a (.code x :: .inScope x :: k)) cs w) :=
  step_lone_go (by simp [stepG, stepG.exec, Frame.atR])
theorem tD {x : Code} (h : J P f ro n R (.code x :: .inScope x :: k) ds env w) : J P f ro n R (.code (.scope x) :: k) ds env w := .same (fun _ _ _ _ => .one vG) h
theorem aQ {x y : Code} (h : J P f ro n R (.code x :: .code y :: k) ds env w) : J P f ro n R (.code (.seq x y) :: k) ds env w := .same (fun _ _ _ _ => .one stepR_seq) h
theorem aN {id : Nat} {x : Code} (h : J P f ro n R (.code x :: .inBlock id :: k) ds env w) : J P f ro n R (.code (.block id x) :: k) ds env w := .same (fun _ _ _ _ => .one stepR_block) h
theorem bP {id : Nat} (hk : exitTo id k = some todo') (h : J P f ro n R todo' ds env w) : J P f ro n R (.code (.exit id) :: k) ds env w := .same (fun _ _ _ _ => .one (stepR_exit hk)) h
theorem J_inLoop {x : Code} (h : J P f ro n R (.code x :: .inLoop x :: k) ds env w) : J P f ro n R (.inLoop x :: k) ds env w := .same (fun _ _ _ _ => .one stepR_inLoop) h
theorem J_loop1 {x : Code} (h : J P f ro n R (.code x :: .inLoop x :: k) ds env w) : J P f ro n R (.code (.loop x) :: k) ds env w := .same (fun _ _ _ _ => .one stepR_loop) h
theorem aCg {c : Operand} {x y : Code} {b : Bool} (hc : ev env c = some (.bool b)) (ht : b = true → J P f ro n R (.code x :: k) ds env w) (hf : b = false → J P f ro n R (.code y :: k) ds env w) :
    J P f ro n R (.code (.cond c x y) :: k) ds env w := by
  cases b with
  | true => exact .same (fun _ _ hm cs => .one (stepR_cond (P := P) (b := base f ro) (k := k) (w := w) (x := x) (y := y) (cs := cs) (hm.eval (ds := ds) hc))) (ht rfl)
  | false => exact .same (fun _ _ hm cs => .one (stepR_cond (P := P) (b := base f ro) (k := k) (w := w) (x := x) (y := y) (cs := cs) (hm.eval (ds := ds) hc))) (hf rfl)
theorem J_loop {α : Type} (I : α → World → Prop) (E : α → Env) (μ : α → Nat) (x0 : α) {x : Code} (h0 : I x0 w) (hs : Sub (E x0) env)
    (round : ∀ g w, I g w → (∀ g' w', I g' w' → μ g' < μ g → J P f ro n R (.inLoop x :: k) ds (E g') w') → J P f ro n R (.code x :: .inLoop x :: k) ds (E g) w) :
    J P f ro n R (.code (.loop x) :: k) ds env w := by
  have key : ∀ m g w, μ g = m → I g w → J P f ro n R (.code x :: .inLoop x :: k) ds (E g) w := by
    intro m
    induction m using Nat.strongRecOn with
    | _ m ih =>
      intro g w hm hi
      exact round g w hi (fun g' w' hi' hlt => J_inLoop (ih _ (by omega) g' w' rfl hi'))
  exact J_loop1 (.sub hs (key _ x0 w rfl h0))
theorem J_ret {fn : Func} {v : Value} (hf : P.funcs[f]? = some fn) (hr : ∀ tmps, Match tmps env → (results fn tmps).run P w = .ok v w) (hR : R v w) :
    J P f none n R (.code .ret :: k) [] env w := fun tmps _ _ hm =>
  ⟨v, w, _, w, hR, .one (stepR_ret rfl), rfl, rfl, rfl, rfl, rfl, fn, hf, hr tmps hm⟩
theorem J_end {fn : Func} {v : Value} (hf : P.funcs[f]? = some fn) (hr : ∀ tmps, Match tmps env → (results fn tmps).run P w = .ok v w) (hR : R v w) :
    J P f none n R [] [] env w := fun tmps _ _ hm =>
  ⟨v, w, _, w, hR, .one (stepR_end rfl), rfl, rfl, rfl, rfl, rfl, fn, hf, hr tmps hm⟩
def Ret (P : Program) (f : FuncId) (args : Array Value) (w : World) (R : Value → World → Prop) : Prop :=
  ∀ cs, ∃ v w' fr, R v w' ∧ Steps P (lone (Frame.enter P f args .normal) cs w) (lone fr cs w') ∧ fr.fn = f ∧ fr.leaving P w' (.returned v)
theorem Ret.mono {args : Array Value} {R' : Value → World → Prop} (h : Ret P f args w R) (hr : ∀ v w, R v w → R' v w) : Ret P f args w R' := fun cs =>
  let ⟨v, w', fr, r, s⟩ := h cs; ⟨v, w', fr, hr _ _ r, s⟩
theorem Ret.calls {args : Array Value} (h : Ret P f args w R) : Calls P f args w (fun e w' => ∃ v, e = .returned v ∧ R v w') := fun cs =>
  let ⟨v, w', fr, r, a, b, c⟩ := h cs; ⟨.returned v, w', fr, ⟨v, rfl, r⟩, a, b, c⟩
theorem Ret.of_calls {args : Array Value} (h : Calls P f args w (fun e w' => ∃ v, e = .returned v ∧ R v w')) : Ret P f args w R := fun cs => by
  obtain ⟨e, w', fr, ⟨v, rfl, r⟩, a, b, c⟩ := h cs
  exact ⟨v, w', fr, r, a, b, c⟩
def lY : Nat → List Value → Env
  | _, [] => []
  | i, v :: r => (i, v) :: lY (i + 1) r
theorem tJ : ∀ (l : List Value) (i t : Nat) (v : Value), Env.get (lY i l) t = some v → i ≤ t ∧ l[t - i]? = some v := by
  intro l
  induction l with
  | nil => intro i t v h; simp [lY, Env.get] at h
  | cons x r ih =>
    intro i t v h
    simp only [lY] at h
    rw [Env.get_cons] at h
    by_cases hi : i = t
    · subst hi; simp at h; subst h; simp
    · simp [hi] at h
      obtain ⟨h1, h2⟩ := ih (i + 1) t v h
      refine ⟨by omega, ?_⟩
      have : t - i = (t - (i + 1)) + 1 := by omega
      rw [this]; simpa using h2
theorem bI {fn : Func} {c : Code} {l : List Value} {m : Nat} (hf : P.funcs[f]? = some fn) (hb : fn.body = some c) (hm : fn.ntmps = m) (hl : l.length ≤ m)
    (h : J P f none m R [.code c] [] (lY 0 l) w) : Ret P f l.toArray w R := by
  have henter : Frame.enter P f l.toArray .normal = (base f none).atR ⟨l.toArray ++ Array.replicate (m - l.length) undef, []⟩ [.code c] := by
    simp [Frame.enter, Frame.atR, hf, hb, base, hm]
  intro cs
  obtain ⟨v, w', fr, w'', hR, hs, hfn, hw, hl⟩ := h (l.toArray ++ Array.replicate (m - l.length) undef) cs (by simp; omega) (fun t v ht => by
    obtain ⟨_, h2⟩ := tJ l 0 t v ht
    have hlt : t < l.length := by simpa using (List.getElem?_eq_some_iff.1 h2).1
    rw [Array.getElem?_append_left (by simpa using hlt)]
    simpa using h2)
  subst hw
  exact ⟨v, w', fr, hR, by rw [henter]; exact hs, hfn, hl⟩
def NextOk (P : Program) (S : Value → World → Prop) : Next → World → Prop
  | .enter g qas, w => Ret P g qas w S
  | .round l g tmps assign body, w => ∀ c cs, ∃ v w', S v w' ∧ Steps P (lone (Frame.round l g tmps assign body .normal) (c :: cs) w) (lone (c.finish v) cs w')
  | .value v, w => S v w
  | .skip, w => S undef w
  | _, _ => False
def RetV (P : Program) (fv : Value) (args : Array Value) (w : World) (S : Value → World → Prop) : Prop :=
  ∃ d nx w1, (Deferred.ofValue fv args).run P w = .ok d w ∧ (invoke d.target d.args).run P w = .ok nx w1 ∧ NextOk P S nx w1
theorem NextOk.mono {S S' : Value → World → Prop} {nx : Next} (h : NextOk P S nx w) (hs : ∀ v w, S v w → S' v w) : NextOk P S' nx w := by
  cases nx <;> simp only [NextOk] at h ⊢
  case enter => exact h.mono hs
  case round => exact fun c cs => let ⟨v, w', r, s⟩ := h c cs; ⟨v, w', hs _ _ r, s⟩
  case value => exact hs _ _ h
  case skip => exact hs _ _ h
def bH (P : Program) (g : FuncId) : Prop := ∀ args w, (callFunc g args).run P w = .ok (.enter g args) w
theorem aY {g : FuncId} {fn : Func} (h : P.funcs[g]? = some fn) (hn : (fn.name == "runtime.NumGoroutine") = false) (hb : fn.body.isNone = false) : bH P g := by
  intro args w
  simp only [callFunc, Sem.run_bind, run_program, Result.andThen_ok, h, hn, hb, Bool.false_eq_true, if_false, Sem.run_pure]
theorem Ret.value {g : FuncId} {args cap : Array Value} {S : Value → World → Prop} (he : bH P g) (h : Ret P g (args ++ cap) w S) : RetV P (.func (.func g) #[] cap) args w S := by
  refine ⟨{ target := .fn (.func g) cap, args := args }, .enter g (args ++ cap), w, ?_, ?_, h⟩
  · simp [Deferred.ofValue]
  · simp only [invoke]; exact he _ _
end
end Go.Eng
end
section
namespace Go.Eng
section
variable {P : Program} {f : FuncId} {ro : Option Nat} {n : Nat} {R : Value → World → Prop} {k : List Item} {ds : List Deferred} {env env' : Env} {w w' : World}
variable {ops : Array Oper} {os : List Oper}
def JL (P : Program) (f : FuncId) (ro : Option Nat) (n : Nat) (R : Value → World → Prop) (ops : Array Oper) (os : List Oper) (k : List Item) (ds : List Deferred) (env : Env) (w : World) : Prop :=
  ∀ l : List Nat, l.map (fun i => ops[i]?) = os.map some → J P f ro n R (.inRegion ops l :: k) ds env w
theorem aH (h : J P f ro n R k ds env w) : JL P f ro n R ops [] k ds env w := fun l hl => by
  have : l = [] := by simpa using hl
  subst this
  exact .same (fun _ _ _ _ => .one stepR_region_end) h
theorem aB {id : Nat} {l : List Oper} (h : JL P f ro n R l.toArray l k ds env w) : J P f ro n R (.code (.region id l.toArray false) :: k) ds env w :=
  .same (fun _ _ _ _ => .one stepR_region) (h _ (by
    apply List.ext_getElem?
    intro i
    simp only [List.getElem?_map, List.size_toArray]
    by_cases hi : i < l.length
    · simp [hi]
    · simp [List.getElem?_eq_none (show (List.range l.length).length ≤ i by simp; omega), List.getElem?_eq_none (show l.length ≤ i by omega)]))
def J1 (P : Program) (f : FuncId) (ro : Option Nat) (n : Nat) (R : Value → World → Prop) (ops : Array Oper) (o : Oper) (l : List Nat) (k : List Item) (ds : List Deferred) (env : Env) (w : World) : Prop :=
  ∀ i, ops[i]? = some o → J P f ro n R (.inRegion ops (i :: l) :: k) ds env w
theorem tH {o : Oper} (h : ∀ l, l.map (fun i => ops[i]?) = os.map some → J1 P f ro n R ops o l k ds env w) : JL P f ro n R ops (o :: os) k ds env w := by
  intro l hl
  cases l with
  | nil => simp at hl
  | cons i r =>
    simp only [List.map_cons, List.cons.injEq] at hl
    exact h r hl.2 i hl.1
theorem eval_ds (tmps : Array Value) (ds : List Deferred) : Act.eval ⟨tmps, ds⟩ = Act.eval ⟨tmps, []⟩ := funext fun x => by cases x <;> rfl
def aCe (o : Oper) (tmps : Array Value) (env : Env) : Prop := ∀ t v, Operand.tmp t ∈ o.op.operands → Env.get env t = some v → tmps[t]? = some v
def OpR (P : Program) (env : Env) (o : Oper) (w : World) (S : Value → World → Prop) : Prop :=
  ∃ nx w1, NextOk P S nx w1 ∧ ∀ tmps, Match tmps env → (execOp (Act.eval ⟨tmps, []⟩) o).run P w = .ok nx w1
theorem OpR.mono {o : Oper} {S S' : Value → World → Prop} (h : OpR P env o w S) (hs : ∀ v w, S v w → S' v w) : OpR P env o w S' :=
  let ⟨nx, w1, a, b⟩ := h; ⟨nx, w1, a.mono hs, b⟩
theorem OpR.val {o : Oper} {v : Value} {S : Value → World → Prop} (h : ∀ tmps, Match tmps env → (execOp (Act.eval ⟨tmps, []⟩) o).run P w = .ok (.value v) w') (hS : S v w') : OpR P env o w S := ⟨.value v, w', hS, h⟩
theorem OpR.unit {o : Oper} {S : Value → World → Prop} (h : ∀ tmps, Match tmps env → (execOp (Act.eval ⟨tmps, []⟩) o).run P w = .ok .skip w') (hS : S undef w') : OpR P env o w S := ⟨.skip, w', hS, h⟩
theorem OpR.on {o : Oper} {S : Value → World → Prop} (hsel : ∀ cs b, o.op ≠ .select cs b) (h : OpR P env o w S) :
    ∃ nx w1, NextOk P S nx w1 ∧ ∀ tmps, aCe o tmps env → (execOp (Act.eval ⟨tmps, []⟩) o).run P w = .ok nx w1 := by
  obtain ⟨nx, w1, hn, hr⟩ := h
  refine ⟨nx, w1, hn, fun tmps hm => ?_⟩
  obtain ⟨N, hN⟩ : ∃ N, ∀ t v, Env.get env t = some v → t < N := by
    clear hn hr hm
    induction env with
    | nil => exact ⟨0, fun t v h => by simp [Env.get] at h⟩
    | cons x r ih =>
      obtain ⟨N, hN⟩ := ih
      obtain ⟨s, u⟩ := x
      refine ⟨max N (s + 1), fun t v h => ?_⟩
      rw [Env.get_cons] at h
      by_cases hs : s = t
      · omega
      · simp [hs] at h; have := hN t v h; omega
  let tm : Array Value := Array.ofFn (n := max N tmps.size) fun i => (Env.get env i).getD (tmps.getD i undef)
  have htm : Match tm env := fun t v h => by
    have hlt := hN t v h
    have : t < max N tmps.size := by omega
    simp [tm, this, h]
  have hcong : execOp (Act.eval ⟨tmps, []⟩) o = execOp (Act.eval ⟨tm, []⟩) o := by
    refine execOp_congr o hsel fun x hx => ?_
    cases x with
    | tmp t =>
      simp only [Act.eval]
      by_cases hlt : t < max N tmps.size
      · cases hg : Env.get env t with
        | some v => have := hm t v hx hg; simp [tm, Array.getD_eq_getD_getElem?, this, hlt, hg]
        | none => simp [tm, Array.getD_eq_getD_getElem?, hlt, hg]
      · have h2 : ¬ t < tmps.size := fun h => hlt (Nat.lt_of_lt_of_le h (Nat.le_max_right _ _))
        have h3 : tm.size = max N tmps.size := by simp [tm]
        simp only [Array.getD_eq_getD_getElem?]
        rw [Array.getElem?_eq_none (Nat.not_lt.1 h2), Array.getElem?_eq_none (by rw [h3]; exact Nat.not_lt.1 hlt)]
    | _ => rfl
  rw [hcong]; exact hr tm htm
theorem rZ {o : Oper} {i : Nat} {l : List Nat} {tmps : Array Value} {nx : Next} {w1 : World} {S : Value → World → Prop} (hi : ops[i]? = some o)
    (hw : Region.wanted o (yielded ops tmps) = true) (hs : ∀ c, o.op ≠ .defer c) (hrun : (execOp (Act.eval ⟨tmps, []⟩) o).run P w = .ok nx w1) (hn : NextOk P S nx w1) (cs : List Frame) :
    ∃ v w', S v w' ∧ Steps P (lone ((base f ro).atR ⟨tmps, ds⟩ (.inRegion ops (i :: l) :: k)) cs w) (lone ((base f ro).atR ⟨(Act.put ⟨tmps, []⟩ o.dst v).tmps, ds⟩ (.inRegion ops l :: k)) cs w') := by
  have hg' := stepGR_op (P := P) (b := base f ro) (a := ⟨tmps, ds⟩) (k := k) (cs := cs) (w := w) (rest := l) hi hw
  rw [Oper.semAt_eq _ _ _ hs, eval_ds] at hg'
  have hfin : ∀ v, ((base f ro).atR ⟨tmps, ds⟩ (.inRegion ops (i :: l) :: k)).finish v = (base f ro).atR ⟨(Act.put ⟨tmps, []⟩ o.dst v).tmps, ds⟩ (.inRegion ops l :: k) := fun v => by
    have hf := Frame.finish_atR (base f ro) ⟨tmps, ds⟩ ops i l k v
    rw [hi] at hf
    simp only [Option.bind_some] at hf
    rw [aAg] at hf
    exact hf
  cases nx with
  | value v =>
    refine ⟨v, w1, hn, .one (step_lone_go ?_)⟩
    rw [hg', ← hfin]
    simp [stepG.apply, Sem.runT_eq, hrun, GStep.bare_after]
  | skip =>
    refine ⟨undef, w1, hn, .one (step_lone_go ?_)⟩
    rw [hg', ← hfin]
    simp [stepG.apply, Sem.runT_eq, hrun, GStep.bare_after]
  | enter g qas =>
    obtain ⟨v, w2, fr1, hS, hst, hfn, hlv⟩ := hn ((base f ro).atR ⟨tmps, ds⟩ (.inRegion ops (i :: l) :: k) :: cs)
    refine ⟨v, w2, hS, .head (step_lone_go ?_) (hst.trans (.one ?_))⟩
    · rw [hg']
      simp [stepG.apply, Sem.runT_eq, hrun, GStep.bare_after, Frame.atR]
    · rw [← hfin]; exact step_leave_returned hlv
  | round l' g tm qas body =>
    obtain ⟨v, w2, hS, hst⟩ := hn ((base f ro).atR ⟨tmps, ds⟩ (.inRegion ops (i :: l) :: k)) cs
    rw [hfin] at hst
    refine ⟨v, w2, hS, .head (step_lone_go ?_) hst⟩
    rw [hg']
    simp [stepG.apply, Sem.runT_eq, hrun, GStep.bare_after, Frame.atR]
  | _ => exact hn.elim
theorem wO {o : Oper} {i : Nat} {l : List Nat} {tmps : Array Value} (hi : ops[i]? = some o) (hw : Region.wanted o (yielded ops tmps) = false) (cs : List Frame) :
    Steps P (lone ((base f ro).atR ⟨tmps, ds⟩ (.inRegion ops (i :: l) :: k)) cs w) (lone ((base f ro).atR ⟨(Act.put ⟨tmps, []⟩ o.dst undef).tmps, ds⟩ (.inRegion ops l :: k)) cs w) := by
  have hs := stepR_op_skip (P := P) (b := base f ro) (a := ⟨tmps, ds⟩) (k := k) (cs := cs) (w := w) (ops := ops) (i := i) (rest := l) (by simp [hi, hw])
  rw [hi] at hs
  simp only [Option.bind_some] at hs
  rw [aAg] at hs
  exact .one hs
def gval (ops : Array Oper) (env : Env) (j : Nat) : Option Bool :=
  match ((ops[j]?).bind (·.dst)).bind (Env.get env) with
  | some (.bool b) => some b
  | _ => none
theorem kL {j : Nat} {b : Bool} {tmps : Array Value} (h : gval ops env j = some b) (hm : ∀ t v, (ops[j]?).bind (·.dst) = some t → Env.get env t = some v → tmps[t]? = some v) : yielded ops tmps j = some b := by
  unfold gval at h
  cases hd : (ops[j]?).bind (·.dst) with
  | none => simp [hd] at h
  | some t =>
    simp only [hd, Option.bind_some] at h
    cases hv : Env.get env t with
    | none => simp [hv] at h
    | some v =>
      have := hm t v hd hv
      simp only [hv] at h
      unfold yielded
      simp only [hd, Option.bind_some, this]
      exact h
def Gund (ops : Array Oper) (env : Env) (j : Nat) : Prop := ((ops[j]?).bind (·.dst)).bind (Env.get env) = some undef
theorem nT {j : Nat} {tmps : Array Value} (h : Gund ops env j) (hm : ∀ t v, (ops[j]?).bind (·.dst) = some t → Env.get env t = some v → tmps[t]? = some v) : yielded ops tmps j = none := by
  unfold Gund at h
  cases hd : (ops[j]?).bind (·.dst) with
  | none => simp [hd] at h
  | some t =>
    simp only [hd, Option.bind_some] at h
    have := hm t undef hd h
    unfold yielded
    simp only [hd, Option.bind_some, this]
    rfl
def mQ (n : Nat) (o : Oper) : Bool := match o.dst with | none => true | some t => Nat.blt t n
theorem iT {o : Oper} (h : mQ n o = true) : ∀ t, o.dst = some t → t < n := fun t ht => by
  simpa [mQ, ht] using h
def cG : Op → Bool | .defer _ => false | .select _ _ => false | _ => true
theorem JL_op {dst : Option Tmp} {op : Op} {ty : TypeId} {pos : String} {af : Array Edge} {S : Value → World → Prop} (h : OpR P env ⟨dst, op, ty, pos, af, none⟩ w S)
    (hk : ∀ v w', S v w' → JL P f ro n R ops os k ds (put env dst v) w') (hd : mQ n ⟨dst, op, ty, pos, af, none⟩ = true := by rfl) (hs : cG op = true := by rfl) :
    JL P f ro n R ops (⟨dst, op, ty, pos, af, none⟩ :: os) k ds env w := by
  refine tH fun l hl i hi tmps cs hn hm => ?_
  obtain ⟨nx, w1, hnx, hr⟩ := h
  obtain ⟨v, w2, hS, hst⟩ := rZ (ds := ds) (k := k) (f := f) (ro := ro) (l := l) hi (by simp [Region.wanted]) (by intro c hc; simp only at hc; subst hc; simp [cG] at hs) (hr tmps hm) hnx cs
  obtain ⟨v', w', fr, w'', hR, hs', hf⟩ := hk v w2 hS l hl _ cs (by rw [iN]; exact hn) (hm.put (by rw [hn]; exact iT hd) v)
  exact ⟨v', w', fr, w'', hR, hst.trans hs', hf⟩
theorem JL_on {dst : Option Tmp} {op : Op} {ty : TypeId} {pos : String} {af : Array Edge} {j : Nat} {u b : Bool} {S : Value → World → Prop} (hg : gval ops env j = some b) (hb : b = u) (h : OpR P env ⟨dst, op, ty, pos, af, some (j, u)⟩ w S)
    (hk : ∀ v w', S v w' → JL P f ro n R ops os k ds (put env dst v) w') (hd : mQ n ⟨dst, op, ty, pos, af, some (j, u)⟩ = true := by rfl) (hs : cG op = true := by rfl) :
    JL P f ro n R ops (⟨dst, op, ty, pos, af, some (j, u)⟩ :: os) k ds env w := by
  refine tH fun l hl i hi tmps cs hn hm => ?_
  obtain ⟨nx, w1, hnx, hr⟩ := h
  obtain ⟨v, w2, hS, hst⟩ := rZ (ds := ds) (k := k) (f := f) (ro := ro) (l := l) hi (by simp [Region.wanted, kL hg (fun t v _ ht => hm t v ht), hb]) (by intro c hc; simp only at hc; subst hc; simp [cG] at hs) (hr tmps hm) hnx cs
  obtain ⟨v', w', fr, w'', hR, hs', hf⟩ := hk v w2 hS l hl _ cs (by rw [iN]; exact hn) (hm.put (by rw [hn]; exact iT hd) v)
  exact ⟨v', w', fr, w'', hR, hst.trans hs', hf⟩
theorem JL_off {dst : Option Tmp} {op : Op} {ty : TypeId} {pos : String} {af : Array Edge} {j : Nat} {u b : Bool} (hg : gval ops env j = some b) (hb : b = !u)
    (hk : JL P f ro n R ops os k ds (put env dst undef) w) (hd : mQ n ⟨dst, op, ty, pos, af, some (j, u)⟩ = true := by rfl) :
    JL P f ro n R ops (⟨dst, op, ty, pos, af, some (j, u)⟩ :: os) k ds env w := by
  refine tH fun l hl i hi tmps cs hn hm => ?_
  have hst := wO (P := P) (ds := ds) (k := k) (f := f) (ro := ro) (l := l) (w := w) (tmps := tmps) hi (by simp [Region.wanted, kL (tmps := tmps) hg (fun t v _ ht => hm t v ht), hb]) cs
  obtain ⟨v', w', fr, w'', hR, hs', hf⟩ := hk l hl _ cs (by rw [iN]; exact hn) (hm.put (by rw [hn]; exact iT hd) undef)
  exact ⟨v', w', fr, w'', hR, hst.trans hs', hf⟩
theorem JL_und {dst : Option Tmp} {op : Op} {ty : TypeId} {pos : String} {af : Array Edge} {j : Nat} {u : Bool} (hg : Gund ops env j)
    (hk : JL P f ro n R ops os k ds (put env dst undef) w) (hd : mQ n ⟨dst, op, ty, pos, af, some (j, u)⟩ = true := by rfl) :
    JL P f ro n R ops (⟨dst, op, ty, pos, af, some (j, u)⟩ :: os) k ds env w := by
  refine tH fun l hl i hi tmps cs hn hm => ?_
  have hst := wO (P := P) (ds := ds) (k := k) (f := f) (ro := ro) (l := l) (w := w) (tmps := tmps) hi (by simp [Region.wanted, nT (tmps := tmps) hg (fun t v _ ht => hm t v ht)]) cs
  obtain ⟨v', w', fr, w'', hR, hs', hf⟩ := hk l hl _ cs (by rw [iN]; exact hn) (hm.put (by rw [hn]; exact iT hd) undef)
  exact ⟨v', w', fr, w'', hR, hst.trans hs', hf⟩
end
end Go.Eng
end
section
namespace Go.Eng
open Go.RowKit (Below)
open Go.RowKit
structure Ext (w w' : World) : Prop where
  os : w'.os = w.os
  tape : w'.tape = w.tape
  output : w'.output = w.output
  size : w.heap.size ≤ w'.heap.size
  block : ∀ k, k < w.heap.size → w'.heap[k]? = w.heap[k]?
  drawn : w.drawn ≤ w'.drawn
theorem Ext.below {w w' : World} (h : Ext w w') : Below w.heap.size w w' := ⟨h.os, h.tape, h.output, h.size, h.block⟩
theorem Ext.of {w w' : World} (h : Below w.heap.size w w') (hd : w.drawn ≤ w'.drawn) : Ext w w' := ⟨h.os, h.tape, h.output, h.size, h.block, hd⟩
theorem Ext.refl (w : World) : Ext w w := ⟨rfl, rfl, rfl, Nat.le_refl _, fun _ _ => rfl, Nat.le_refl _⟩
theorem Ext.trans {a b c : World} (h : Ext a b) (k : Ext b c) : Ext a c :=
  ⟨k.os.trans h.os, k.tape.trans h.tape, k.output.trans h.output, Nat.le_trans h.size k.size, fun i hi => (k.block i (Nat.lt_of_lt_of_le hi h.size)).trans (h.block i hi), Nat.le_trans h.drawn k.drawn⟩
structure Rl (X : Nat → Prop) (w w' : World) : Prop where
  os : w'.os = w.os
  tape : w'.tape = w.tape
  output : w'.output = w.output
  size : w.heap.size ≤ w'.heap.size
  old : ∀ k, k < w.heap.size → ¬ X k → w'.heap[k]? = w.heap[k]?
  drawn : w.drawn ≤ w'.drawn
theorem Rl.refl {X : Nat → Prop} (w : World) : Rl X w w := ⟨rfl, rfl, rfl, Nat.le_refl _, fun _ _ _ => rfl, Nat.le_refl _⟩
theorem Rl.trans {X : Nat → Prop} {a b c : World} (h : Rl X a b) (k : Rl X b c) : Rl X a c :=
  ⟨k.os.trans h.os, k.tape.trans h.tape, k.output.trans h.output, Nat.le_trans h.size k.size, fun i hi hx => (k.old i (Nat.lt_of_lt_of_le hi h.size) hx).trans (h.old i hi hx), Nat.le_trans h.drawn k.drawn⟩
theorem Ext.rl {X : Nat → Prop} {a b : World} (h : Ext a b) : Rl X a b := ⟨h.os, h.tape, h.output, h.size, fun k hk _ => h.block k hk, h.drawn⟩
theorem Rl.ext {X : Nat → Prop} {a b : World} (h : Rl X a b) (hX : ∀ k, ¬ X k) : Ext a b := ⟨h.os, h.tape, h.output, h.size, fun k hk => h.old k hk (hX k), h.drawn⟩
theorem Ext.drew (w : World) : Ext w { w with drawn := w.drawn + 1 } := ⟨rfl, rfl, rfl, Nat.le_refl _, fun _ _ => rfl, Nat.le_succ _⟩
def has (T : List Nat) (j i : Nat) : Bool := (T.getD j 0).testBit i
def bind1 (T : List Nat) (s : Nat) (e : Edge) : Nat := if Region.binds .any e then s ||| 2 ^ e.on ||| T.getD e.on 0 else s
def kA (ops : Array Oper) (T : List Nat) : Bool :=
  (List.range ops.size).all fun i => match ops[i]? with
    | some o => (o.after.toList.all fun e => !Region.binds .any e || Nat.blt e.on i) && (T.getD i 0 == o.after.toList.foldl (bind1 T) 0)
    | none => false
theorem vO (T : List Nat) : ∀ (es : List Edge) (s d : Nat), (es.foldl (bind1 T) s).testBit d = true → s.testBit d = true ∨ ∃ e ∈ es, Region.binds .any e = true ∧ (d = e.on ∨ has T e.on d = true) := by
  intro es
  induction es with
  | nil => intro s d h; exact .inl h
  | cons e r ih =>
    intro s d h
    simp only [List.foldl_cons] at h
    rcases ih _ _ h with h1 | ⟨e', he, hb⟩
    · unfold bind1 at h1
      split at h1
      · rename_i hb
        simp only [Nat.testBit_or, Bool.or_eq_true] at h1
        rcases h1 with (h1 | h1) | h1
        · exact .inl h1
        · refine .inr ⟨e, List.mem_cons_self, hb, .inl ?_⟩
          by_cases hd : e.on = d
          · exact hd.symm
          · rw [Nat.testBit_two_pow] at h1; simp [hd] at h1
        · exact .inr ⟨e, List.mem_cons_self, hb, .inr h1⟩
      · exact .inl h1
    · exact .inr ⟨e', List.mem_cons_of_mem _ he, hb⟩
section
variable {ops : Array Oper} {T : List Nat}
theorem oS (h : kA ops T = true) {i : Nat} {o : Oper} (ho : ops[i]? = some o) :
    (∀ e ∈ o.after, Region.binds .any e = true → e.on < i) ∧ ∀ d, has T i d = true → ∃ e ∈ o.after, Region.binds .any e = true ∧ (d = e.on ∨ has T e.on d = true) := by
  have h1 := List.all_eq_true.1 h i (List.mem_range.2 (Array.getElem?_eq_some_iff.1 ho).1)
  rw [ho] at h1
  simp only [Bool.and_eq_true, List.all_eq_true, Bool.or_eq_true, beq_iff_eq] at h1
  refine ⟨fun e he hb => ?_, fun d hd => ?_⟩
  · have := h1.1 e (by simpa using he)
    simp [hb] at this; exact this
  · unfold has at hd
    rw [h1.2] at hd
    rcases vO T _ _ _ hd with h2 | ⟨e, he, h2⟩
    · simp at h2
    · exact ⟨e, by simpa using he, h2⟩
theorem yX (h : kA ops T = true) {S : Nat → Prop} (hS : ∀ i o, ops[i]? = some o → S i → ∀ e ∈ o.after, Region.binds .any e = true → S e.on) :
    ∀ (m i : Nat) (o : Oper), i < m → ops[i]? = some o → (∀ e ∈ o.after, Region.binds .any e = true → S e.on) → ∀ d, has T i d = true → S d := by
  intro m
  induction m with
  | zero => intro i o hi; omega
  | succ m ih =>
    intro i o hi ho hd d hb
    obtain ⟨hlt, hrow⟩ := oS h ho
    obtain ⟨e, he, hbe, hde⟩ := hrow d hb
    rcases hde with rfl | hde
    · exact hd e he hbe
    · have hei := hlt e he hbe
      have hilt : i < ops.size := (Array.getElem?_eq_some_iff.1 ho).1
      have hoe : ops[e.on]? = some ops[e.on] := Array.getElem?_eq_getElem (by omega)
      exact ih e.on _ (by omega) hoe (fun e' he' hb' => hS _ _ hoe (hd e he hbe) e' he' hb') d hde
theorem qS (h : kA ops T = true) : ∀ (m i : Nat), i < m → i < ops.size → ∀ d, has T i d = true → d < i := by
  intro m
  induction m with
  | zero => intro i hi; omega
  | succ m ih =>
    intro i him hi d hb
    have ho : ops[i]? = some ops[i] := Array.getElem?_eq_getElem hi
    obtain ⟨hlt, hrow⟩ := oS h ho
    obtain ⟨e, he, hbe, hde⟩ := hrow d hb
    have hei := hlt e he hbe
    rcases hde with rfl | hde
    · exact hei
    · have := ih e.on (by omega) (by omega) d hde; omega
structure Sched (ops : Array Oper) (T : List Nat) (L : Nat → Prop) (l : List Nat) : Prop where
  lin : l.Pairwise (fun a b => has T a b = false)
  nodup : l.Nodup
  mem : ∀ i, i ∈ l ↔ i < ops.size ∧ ¬ L i
theorem sched_go (h : kA ops T = true) : ∀ (fuel t : Nat) (listed : Array Bool), listed.size = ops.size →
    (∀ i o, ops[i]? = some o → listed.getD i false = true → ∀ e ∈ o.after, Region.binds .any e = true → listed.getD e.on false = true) →
    ((List.range ops.size).filter (fun i => !listed.getD i false)).length ≤ fuel →
    Sched ops T (fun i => listed.getD i false = true) (Region.linearise.go .any ops fuel t listed []) := by
  intro fuel
  induction fuel with
  | zero =>
    intro t listed hsz hcl hf
    simp only [Region.linearise.go, List.reverse_nil]
    refine ⟨List.Pairwise.nil, List.nodup_nil, fun i => ?_⟩
    simp only [List.not_mem_nil, false_iff, not_and, Classical.not_not]
    intro hi
    have : (List.range ops.size).filter (fun i => !listed.getD i false) = [] := List.length_eq_zero_iff.1 (by omega)
    have := List.filter_eq_nil_iff.1 this i (List.mem_range.2 hi)
    simpa using this
  | succ fuel ih =>
    intro t listed hsz hcl hf
    simp only [Region.linearise.go]
    change Sched ops T _ (match (Region.ready .any ops listed)[t % (Region.ready .any ops listed).length]? with
      | some i => Region.linearise.go .any ops fuel (t / (Region.ready .any ops listed).length) (listed.setIfInBounds i true) [i]
      | none => [].reverse)
    cases hi : (Region.ready .any ops listed)[t % (Region.ready .any ops listed).length]? with
    | none =>
      have hnil : Region.ready .any ops listed = [] := by
        cases hr : Region.ready .any ops listed with
        | nil => rfl
        | cons x xs =>
          rw [hr] at hi
          have hlt : t % (x :: xs).length < (x :: xs).length := Nat.mod_lt _ (by simp)
          simp at hi
          simp at hlt
          omega
      simp only [List.reverse_nil]
      refine ⟨List.Pairwise.nil, List.nodup_nil, fun i => ?_⟩
      simp only [List.not_mem_nil, false_iff, not_and, Classical.not_not]
      -- all are listed
      have all : ∀ m i, i < m → i < ops.size → listed.getD i false = true := by
        intro m
        induction m with
        | zero => intro i hi; omega
        | succ m ihm =>
          intro i him hilt
          cases hl : listed.getD i false with
          | true => rfl
          | false =>
            exfalso
            have ho : ops[i]? = some ops[i] := Array.getElem?_eq_getElem hilt
            have hmem : i ∈ Region.ready .any ops listed := mem_ready.2 ⟨by
              rw [Array.getD_eq_getD_getElem?] at hl ⊢
              have : listed[i]? = some listed[i] := Array.getElem?_eq_getElem (by omega)
              rw [this] at hl ⊢
              simpa using hl, _, ho, fun e he hb => by
              have := (oS h ho).1 e he hb
              exact ihm e.on (by omega) (by omega)⟩
            rw [hnil] at hmem
            cases hmem
      exact fun hi => all (i + 1) i (by omega) hi
    | some i =>
      have hready := List.mem_of_getElem? hi
      obtain ⟨hun, o, ho, hall⟩ := mem_ready.1 hready
      have hilt : i < ops.size := (Array.getElem?_eq_some_iff.1 ho).1
      have hun' : listed.getD i false = false := by
        rw [Array.getD_eq_getD_getElem?] at hun ⊢
        have : listed[i]? = some listed[i] := Array.getElem?_eq_getElem (by omega)
        rw [this] at hun ⊢
        simpa using hun
      simp only []
      rw [linearise_go_acc, List.reverse_singleton, List.singleton_append]
      have hset : ∀ j, (listed.setIfInBounds i true).getD j false = (if j = i then true else listed.getD j false) := fun j => by
        by_cases hj : j = i
        · subst hj; simp [Array.getD_eq_getD_getElem?, show j < listed.size by omega]
        · simp only [Array.getD_eq_getD_getElem?, Array.getElem?_setIfInBounds_ne (Ne.symm hj), hj, if_false]
      have hcl' : ∀ j oj, ops[j]? = some oj → (listed.setIfInBounds i true).getD j false = true → ∀ e ∈ oj.after, Region.binds .any e = true → (listed.setIfInBounds i true).getD e.on false = true := by
        intro j oj hoj hl e he hb
        rw [hset] at hl ⊢
        split
        · rfl
        · split at hl
          · rename_i hji; subst hji; rw [ho] at hoj; cases hoj; exact hall e he hb
          · exact hcl j oj hoj hl e he hb
      have hS := ih (t / (Region.ready .any ops listed).length) (listed.setIfInBounds i true) (by simpa using hsz) hcl' (by
        have hcount : ((List.range ops.size).filter (fun j => !(listed.setIfInBounds i true).getD j false)).length < ((List.range ops.size).filter (fun j => !listed.getD j false)).length := by
          have e1 : (List.range ops.size).filter (fun j => !(listed.setIfInBounds i true).getD j false) = ((List.range ops.size).filter (fun j => !listed.getD j false)).filter (fun j => j != i) := by
            rw [List.filter_filter]
            congr 1
            funext j
            rw [hset]
            by_cases hj : j = i <;> simp [hj]
          rw [e1]
          refine List.length_filter_lt_length_iff_exists.2 ⟨i, List.mem_filter.2 ⟨List.mem_range.2 hilt, by simpa using hun'⟩, by simp⟩
        omega)
      refine ⟨List.Pairwise.cons (fun b hb => ?_) hS.lin, List.nodup_cons.2 ⟨fun hm => ?_, hS.nodup⟩, fun j => ?_⟩
      · cases hh : has T i b with
        | false => rfl
        | true =>
          exfalso
          have := yX h (S := fun d => listed.getD d false = true) (fun a oa hoa hla e he hb => hcl a oa hoa hla e he hb) (i + 1) i o (by omega) ho hall b hh
          have h2 := ((hS.mem b).1 hb).2
          rw [hset] at h2
          split at h2
          · simp at h2
          · exact h2 this
      · have := ((hS.mem i).1 hm).2
        rw [hset] at this; simp at this
      · simp only [List.mem_cons, hS.mem, hset]
        by_cases hj : j = i
        · subst hj; simp [hilt, hun']
        · simp [hj]
theorem tL (h : kA ops T = true) (t : Nat) : Sched ops T (fun _ => False) (Region.linearise .any ops t) := by
  have hS := sched_go h ops.size t (Array.replicate ops.size false) (by simp) (fun i o _ hl => by
    rw [Array.getD_eq_getD_getElem?] at hl
    by_cases hi : i < ops.size <;> simp [hi] at hl) (Nat.le_trans (List.length_filter_le _ _) (by simp))
  have e : ∀ i, ((Array.replicate ops.size false).getD i false = true) ↔ False := fun i => by
    rw [Array.getD_eq_getD_getElem?]
    by_cases hi : i < ops.size <;> simp [hi]
  exact ⟨hS.lin, hS.nodup, fun i => by rw [← e i]; exact hS.mem i⟩
end
def vH (ops : Array Oper) (o : Oper) : List Nat :=
  (o.op.operands.toList.filterMap fun | .tmp t => some t | _ => none) ++ (match o.guard with | some (g, _) => ((ops[g]?).bind (·.dst)).toList | none => [])
def gJ (ops : Array Oper) (i : Nat) : Option Nat := (ops[i]?).bind (·.dst)
def fC (ops : Array Oper) (T : List Nat) : Bool :=
  (List.range ops.size).all fun j => match gJ ops j with
    | none => true
    | some t => (List.range ops.size).all fun i => i == j || ((gJ ops i != some t) && (!((ops[i]?).elim [] (vH ops)).contains t || has T i j || has T j i))
def planOk (N : Nat) (T : List Nat) : List (Nat × Bool) → List Nat → List Nat → Bool
  | [], τ, D => (List.range N).all (fun i => D.contains i || τ.contains i) && tailOk τ D | (i, c) :: σ, τ, D => Nat.blt i N && !D.contains i && (List.range N).all (fun d => !has T i d || D.contains d) && (!c || (σ.all fun x => has T x.1 i) && τ.all fun x => has T x i) && planOk N T σ τ (i :: D)
where tailOk : List Nat → List Nat → Bool
  | [], _ => true
  | h :: τ, D => Nat.blt h N && !D.contains h && (D.all fun d => has T h d) && tailOk τ (h :: D)
def regOk (ops : Array Oper) (T : List Nat) (σ : List (Nat × Bool)) (τ : List Nat) : Bool := kA ops T && fC ops T && planOk ops.size T σ τ []
section
variable {P : Program} {f : FuncId} {ro : Option Nat} {n : Nat} {R : Value → World → Prop} {k : List Item} {ds : List Deferred} {env env0 : Env} {w w' : World}
variable {ops : Array Oper} {T : List Nat} {X : Nat → Prop} {D : List (Nat × Value)} {σ : List (Nat × Bool)} {τ : List Nat}
def MatchG (ops : Array Oper) (o : Oper) (tmps : Array Value) (env : Env) : Prop := ∀ t v, t ∈ vH ops o → Env.get env t = some v → tmps[t]? = some v
theorem MatchG.on {o : Oper} {tmps : Array Value} (h : MatchG ops o tmps env) : aCe o tmps env := fun t v ht hv => h t v (List.mem_append_left _ (List.mem_filterMap.2 ⟨.tmp t, by simpa using ht, rfl⟩)) hv
def OpG (P : Program) (ops : Array Oper) (env : Env) (o : Oper) (w : World) (S : Value → World → Prop) : Prop :=
  match o.guard with
  | none => OpR P env o w S
  | some (j, u) => (∃ b, gval ops env j = some b ∧ ((b = u ∧ OpR P env o w S) ∨ (b = !u ∧ S undef w))) ∨ (Gund ops env j ∧ S undef w)
theorem pC {op : Op} (h : cG op = true) : (∀ c, op ≠ .defer c) ∧ ∀ cs b, op ≠ .select cs b :=
  ⟨fun c hc => by subst hc; simp [cG] at h, fun cs b hc => by subst hc; simp [cG] at h⟩
theorem OpG.step {o : Oper} {i : Nat} {l : List Nat} {tmps : Array Value} {S : Value → World → Prop} (hi : ops[i]? = some o) (hnd : cG o.op = true) (h : OpG P ops env o w S) (hm : MatchG ops o tmps env) (cs : List Frame) :
    ∃ v w', S v w' ∧ Steps P (lone ((base f ro).atR ⟨tmps, ds⟩ (.inRegion ops (i :: l) :: k)) cs w) (lone ((base f ro).atR ⟨(Act.put ⟨tmps, []⟩ o.dst v).tmps, ds⟩ (.inRegion ops l :: k)) cs w') := by
  obtain ⟨h1, h2⟩ := pC hnd
  unfold OpG at h
  cases hg : o.guard with
  | none =>
    rw [hg] at h
    obtain ⟨nx, w1, hn, hr⟩ := OpR.on h2 h
    exact rZ hi (by simp [Region.wanted, hg]) h1 (hr tmps hm.on) hn cs
  | some g =>
    obtain ⟨j, u⟩ := g
    rw [hg] at h
    rcases h with ⟨b, hb, h⟩ | ⟨hu, h⟩
    case inr =>
      have hy : yielded ops tmps j = none := nT hu (fun t v ht hv => hm t v (List.mem_append_right _ (by simp [hg, ht])) hv)
      exact ⟨undef, w, h, wO hi (by simp [Region.wanted, hg, hy]) cs⟩
    have hy : yielded ops tmps j = some b := kL hb (fun t v ht hv => hm t v (List.mem_append_right _ (by simp [hg, ht])) hv)
    rcases h with ⟨hbu, h⟩ | ⟨hbu, h⟩
    · obtain ⟨nx, w1, hn, hr⟩ := OpR.on h2 h
      exact rZ hi (by simp [Region.wanted, hg, hy, hbu]) h1 (hr tmps hm.on) hn cs
    · exact ⟨undef, w, h, wO hi (by simp [Region.wanted, hg, hy, hbu]) cs⟩
def TV (ops : Array Oper) (l : List Nat) (D : List (Nat × Value)) (env0 : Env) (t : Nat) (v : Value) : Prop :=
  (∃ i, (i, v) ∈ D ∧ i ∉ l ∧ gJ ops i = some t) ∨ ((∀ i, gJ ops i = some t → i ∈ l) ∧ Env.get env0 t = some v)
def Pend (P : Program) (ops : Array Oper) (T : List Nat) (X : Nat → Prop) (D : List (Nat × Value)) (env0 : Env) (i : Nat) (u : Value) (w : World) : Prop :=
  ∃ o e, ops[i]? = some o ∧ cG o.op = true ∧
    (∀ t v, t ∈ vH ops o → Env.get e t = some v → (∃ j, (j, v) ∈ D ∧ gJ ops j = some t ∧ has T i j = true) ∨ ((∀ j, gJ ops j = some t → j = i ∨ has T j i = true) ∧ Env.get env0 t = some v)) ∧
    ∀ W, Rl X w W → OpG P ops e o W (fun v w' => v = u ∧ w' = W)
structure Inv (P : Program) (ops : Array Oper) (T : List Nat) (X : Nat → Prop) (n : Nat) (l : List Nat) (σ : List Nat) (D : List (Nat × Value)) (env0 : Env) (tmps : Array Value) (w : World) : Prop where
  lin : l.Pairwise (fun a b => has T a b = false)
  nodup : l.Nodup
  part : ∀ i, i ∈ l → i < ops.size ∧ (i ∈ σ ∨ i ∈ D.map (·.1))
  rest : ∀ i ∈ σ, i ∈ l
  closed : ∀ j, j < ops.size → j ∉ l → ∀ d, has T j d = true → d ∉ l
  size : tmps.size = n
  tm : ∀ t v, TV ops l D env0 t v → tmps[t]? = some v
  pend : ∀ i u, (i, u) ∈ D → i ∈ l → Pend P ops T X D env0 i u w
structure Node (ops : Array Oper) (T : List Nat) (n : Nat) (D : List (Nat × Value)) (env0 env : Env) : Prop where
  keys : (D.map (·.1)).Nodup
  lt : ∀ i, i ∈ D.map (·.1) → i < ops.size
  deps : ∀ i, i ∈ D.map (·.1) → ∀ d, d < ops.size → has T i d = true → d ∈ D.map (·.1)
  env : ∀ t v, Env.get env t = some v → (∃ i, (i, v) ∈ D ∧ gJ ops i = some t) ∨ ((∀ i, i ∈ D.map (·.1) → gJ ops i ≠ some t) ∧ Env.get env0 t = some v)
  dst : ∀ (i : Nat) (o : Oper), ops[i]? = some o → mQ n o = true
def JD (P : Program) (f : FuncId) (ro : Option Nat) (n : Nat) (R : Value → World → Prop) (ops : Array Oper) (T : List Nat) (X : Nat → Prop) (σ : List (Nat × Bool)) (τ : List Nat) (D : List (Nat × Value)) (env0 : Env) (k : List Item) (ds : List Deferred) (env : Env) (w : World) : Prop :=
  kA ops T = true → fC ops T = true → planOk ops.size T σ τ (D.map (·.1)) = true → Node ops T n D env0 env →
    ∀ l tmps cs, Inv P ops T X n l (σ.map (·.1) ++ τ) D env0 tmps w →
      ∃ v w' fr w'', R v w' ∧ Steps P (lone ((base f ro).atR ⟨tmps, ds⟩ (.inRegion ops l :: k)) cs w) (lone fr cs w'') ∧ Fin P f ro fr cs w'' v w'
theorem sA (h : fC ops T = true) {i j t : Nat} {o : Oper} (hj : gJ ops j = some t) (hi : ops[i]? = some o) (hne : i ≠ j) : gJ ops i ≠ some t ∧ (t ∈ vH ops o → has T i j = true ∨ has T j i = true) := by
  have hjl : j < ops.size := by
    unfold gJ at hj
    cases hx : ops[j]? with
    | none => simp [hx] at hj
    | some x => exact (Array.getElem?_eq_some_iff.1 hx).1
  have h1 := List.all_eq_true.1 h j (List.mem_range.2 hjl)
  rw [hj] at h1
  simp only [List.all_eq_true] at h1
  have h2 := h1 i (List.mem_range.2 (Array.getElem?_eq_some_iff.1 hi).1)
  simp only [hi, Option.elim, Bool.or_eq_true, beq_iff_eq, hne, false_or, Bool.and_eq_true, bne_iff_ne, ne_eq, Bool.not_eq_true', List.contains_eq_mem, decide_eq_false_iff_not] at h2
  refine ⟨h2.1, fun ht => ?_⟩
  rcases h2.2 with (h3 | h3) | h3
  · exact absurd ht h3
  · exact .inl h3
  · exact .inr h3
theorem Inv.matches {l l' : List Nat} {σ' : List Nat} {tmps : Array Value} {i : Nat} {o : Oper} {e : Env} (hT : kA ops T = true) (hI : Inv P ops T X n l' σ' D env0 tmps w) (hl : l' = i :: l) (hi : ops[i]? = some o)
    (hr : ∀ t v, t ∈ vH ops o → Env.get e t = some v → (∃ j, (j, v) ∈ D ∧ gJ ops j = some t ∧ has T i j = true) ∨ ((∀ j, gJ ops j = some t → j = i ∨ has T j i = true) ∧ Env.get env0 t = some v)) : MatchG ops o tmps e := by
  subst hl
  intro t v ht hv
  refine hI.tm t v ?_
  rcases hr t v ht hv with ⟨j, hj, hd, hh⟩ | ⟨h1, h2⟩
  · refine .inl ⟨j, hj, fun hm => ?_, hd⟩
    rcases List.mem_cons.1 hm with rfl | hm
    · have := qS hT (j + 1) j (by omega) (Array.getElem?_eq_some_iff.1 hi).1 j hh; omega
    · have := (List.pairwise_cons.1 hI.lin).1 j hm; rw [hh] at this; cases this
  · refine .inr ⟨fun j hj => ?_, h2⟩
    rcases h1 j hj with rfl | h3
    · exact List.mem_cons_self
    · refine Classical.byContradiction fun hn => ?_
      have hjl : j < ops.size := by
        unfold gJ at hj
        cases hx : ops[j]? with
        | none => simp [hx] at hj
        | some x => exact (Array.getElem?_eq_some_iff.1 hx).1
      exact hI.closed j hjl hn i h3 List.mem_cons_self
theorem key_val (hk : (D.map (·.1)).Nodup) {i : Nat} {u v : Value} (h1 : (i, u) ∈ D) (h2 : (i, v) ∈ D) : u = v := by
  induction D with
  | nil => cases h1
  | cons x r ih =>
    simp only [List.map_cons, List.nodup_cons] at hk
    rcases List.mem_cons.1 h1 with e1 | k1 <;> rcases List.mem_cons.1 h2 with e2 | k2
    · rw [← e1] at e2; cases e2; rfl
    · subst e1; exact (hk.1 (List.mem_map.2 ⟨(i, v), k2, rfl⟩)).elim
    · subst e2; exact (hk.1 (List.mem_map.2 ⟨(i, u), k1, rfl⟩)).elim
    · exact ih hk.2 k1 k2
theorem Node.reads (hN : fC ops T = true) (nd : Node ops T n D env0 env) {i : Nat} {o : Oper} (hi : ops[i]? = some o) (hD : i ∉ D.map (·.1)) (hdeps : ∀ d, d < ops.size → has T i d = true → d ∈ D.map (·.1)) :
    ∀ t v, t ∈ vH ops o → Env.get env t = some v → (∃ j, (j, v) ∈ D ∧ gJ ops j = some t ∧ has T i j = true) ∨ ((∀ j, gJ ops j = some t → j = i ∨ has T j i = true) ∧ Env.get env0 t = some v) := by
  have hil : i < ops.size := (Array.getElem?_eq_some_iff.1 hi).1
  intro t v ht hv
  rcases nd.env t v hv with ⟨j, hj, hd⟩ | ⟨h1, h2⟩
  · refine .inl ⟨j, hj, hd, ?_⟩
    have hjD : j ∈ D.map (·.1) := List.mem_map.2 ⟨_, hj, rfl⟩
    have hne : i ≠ j := fun e => hD (e ▸ hjD)
    rcases (sA hN hd hi hne).2 ht with h | h
    · exact h
    · exact absurd (nd.deps j hjD i hil h) hD
  · refine .inr ⟨fun j hj => ?_, h2⟩
    by_cases hne : i = j
    · exact .inl hne.symm
    · rcases (sA hN hj hi hne).2 ht with h | h
      · have hjl : j < ops.size := by
          unfold gJ at hj
          cases hx : ops[j]? with
          | none => simp [hx] at hj
          | some x => exact (Array.getElem?_eq_some_iff.1 hx).1
        exact absurd hj (h1 j (hdeps j hjl h))
      · exact .inr h
theorem Pend.ext {i : Nat} {u : Value} (h : Pend P ops T X D env0 i u w) (he : Rl X w w') : Pend P ops T X D env0 i u w' :=
  let ⟨o, e, a, b, c, d⟩ := h; ⟨o, e, a, b, c, fun W hW => d W (he.trans hW)⟩
theorem Pend.more {i : Nat} {u : Value} (h : Pend P ops T X D env0 i u w) (x : Nat × Value) : Pend P ops T X (x :: D) env0 i u w :=
  let ⟨o, e, a, b, c, d⟩ := h; ⟨o, e, a, b, fun t v ht hv => (c t v ht hv).imp (fun ⟨j, h1, h2⟩ => ⟨j, List.mem_cons_of_mem _ h1, h2⟩) id, d⟩
theorem rP (hN : fC ops T = true) (hkey : (D.map (·.1)).Nodup) {i : Nat} {l : List Nat} {o : Oper} {u : Value} {tmps : Array Value} (hi : ops[i]? = some o) (hnot : i ∉ l) (hu : (i, u) ∈ D) (hlt : ∀ t, o.dst = some t → t < tmps.size)
    (h : ∀ t v, TV ops (i :: l) D env0 t v → tmps[t]? = some v) : ∀ t v, TV ops l D env0 t v → (Act.put ⟨tmps, []⟩ o.dst u).tmps[t]? = some v := by
  intro t v htv
  have hdi : gJ ops i = o.dst := by simp [gJ, hi]
  by_cases hd : o.dst = some t
  · -- this very slot
    have hval : v = u := by
      rcases htv with ⟨j, hj, hjl, hjd⟩ | ⟨h1, _⟩
      · by_cases hne : i = j
        · subst hne; exact key_val hkey hj hu
        · exact absurd (hdi.trans hd) (sA hN hjd hi hne).1
      · exact absurd (h1 i (hdi.trans hd)) hnot
    subst hval
    have := hlt t hd
    simp [Act.put, hd, this]
  · have hsame : (Act.put ⟨tmps, []⟩ o.dst u).tmps[t]? = tmps[t]? := by
      cases hx : o.dst with
      | none => rfl
      | some s =>
        have hne : s ≠ t := fun e => hd (by rw [hx, e])
        simp [Act.put, Array.getElem?_setIfInBounds_ne hne]
    rw [hsame]
    refine h t v ?_
    rcases htv with ⟨j, hj, hjl, hjd⟩ | ⟨h1, h2⟩
    · refine .inl ⟨j, hj, fun hm => ?_, hjd⟩
      rcases List.mem_cons.1 hm with rfl | hm
      · exact hd (hdi.symm.trans hjd)
      · exact hjl hm
    · exact .inr ⟨fun j hj => List.mem_cons_of_mem _ (h1 j hj), h2⟩
theorem Inv.pendStep {l : List Nat} {σ' : List Nat} {tmps : Array Value} {i : Nat} (hT : kA ops T = true) (hN : fC ops T = true) (nd : Node ops T n D env0 env) (hI : Inv P ops T X n (i :: l) σ' D env0 tmps w) (hD : i ∈ D.map (·.1)) (hσ : i ∉ σ') (cs : List Frame) :
    ∃ tmps', Inv P ops T X n l σ' D env0 tmps' w ∧ Steps P (lone ((base f ro).atR ⟨tmps, ds⟩ (.inRegion ops (i :: l) :: k)) cs w) (lone ((base f ro).atR ⟨tmps', ds⟩ (.inRegion ops l :: k)) cs w) := by
  obtain ⟨⟨i', u⟩, hu, rfl⟩ := List.mem_map.1 hD
  obtain ⟨o, e, hi, hnd, hr, hG⟩ := hI.pend i' u hu List.mem_cons_self
  have hm := Inv.matches hT hI rfl hi hr
  obtain ⟨v, w2, ⟨rfl, rfl⟩, hst⟩ := OpG.step (f := f) (ro := ro) (ds := ds) (k := k) (l := l) hi hnd (hG w (Rl.refl w)) hm cs
  have hnot : i' ∉ l := (List.nodup_cons.1 hI.nodup).1
  have hlt : ∀ t, o.dst = some t → t < tmps.size := by rw [hI.size]; exact iT (nd.dst i' o hi)
  refine ⟨_, ⟨(List.pairwise_cons.1 hI.lin).2, (List.nodup_cons.1 hI.nodup).2, fun j hj => hI.part j (List.mem_cons_of_mem _ hj), fun j hj => ?_, fun j hjl hj d hd hdl => ?_, by rw [iN]; exact hI.size, rP hN nd.keys hi hnot hu hlt hI.tm, fun j x hj hjl => hI.pend j x hj (List.mem_cons_of_mem _ hjl)⟩, hst⟩
  · rcases List.mem_cons.1 (hI.rest j hj) with rfl | h
    · exact absurd hj hσ
    · exact h
  · by_cases hji : j = i'
    · subst hji; have := (List.pairwise_cons.1 hI.lin).1 d hdl; rw [hd] at this; cases this
    · exact hI.closed j hjl (fun hm => by rcases List.mem_cons.1 hm with h | h; exact hji h; exact hj h) d hd (List.mem_cons_of_mem _ hdl)
theorem Inv.flush {l : List Nat} {σ' : List Nat} {tmps : Array Value} (hT : kA ops T = true) (hN : fC ops T = true) (nd : Node ops T n D env0 env) (hI : Inv P ops T X n l σ' D env0 tmps w) (cs : List Frame) :
    ∃ l' tmps', (l' = [] ∨ ∃ i r, l' = i :: r ∧ i ∈ σ') ∧ Inv P ops T X n l' σ' D env0 tmps' w ∧ Steps P (lone ((base f ro).atR ⟨tmps, ds⟩ (.inRegion ops l :: k)) cs w) (lone ((base f ro).atR ⟨tmps', ds⟩ (.inRegion ops l' :: k)) cs w) := by
  induction l generalizing tmps with
  | nil => exact ⟨[], tmps, .inl rfl, hI, Steps.refl _ _⟩
  | cons i r ih =>
    by_cases hi : i ∈ σ'
    · exact ⟨i :: r, tmps, .inr ⟨i, r, rfl, hi⟩, hI, Steps.refl _ _⟩
    · have hD : i ∈ D.map (·.1) := ((hI.part i List.mem_cons_self).2).resolve_left hi
      obtain ⟨tmps1, hI1, hs1⟩ := Inv.pendStep (f := f) (ro := ro) (ds := ds) (k := k) hT hN nd hI hD hi cs
      obtain ⟨l', tmps2, hl', hI2, hs2⟩ := ih hI1
      exact ⟨l', tmps2, hl', hI2, hs1.trans hs2⟩
theorem kF {N : Nat} {i : Nat} {c : Bool} {D : List Nat} (h : planOk N T ((i, c) :: σ) τ D = true) :
    i < N ∧ i ∉ D ∧ (∀ d, d < N → has T i d = true → d ∈ D) ∧ (c = true → (∀ x ∈ σ, has T x.1 i = true) ∧ ∀ x ∈ τ, has T x i = true) ∧ planOk N T σ τ (i :: D) = true := by
  simp only [planOk, Bool.and_eq_true, Bool.not_eq_true', List.contains_eq_mem, decide_eq_false_iff_not, List.all_eq_true, List.mem_range, Bool.or_eq_true, decide_eq_true_eq] at h
  obtain ⟨⟨⟨⟨h1, h2⟩, h3⟩, h4⟩, h5⟩ := h
  refine ⟨by simpa using h1, h2, fun d hd hh => ?_, fun hc => ?_, h5⟩
  · rcases h3 d hd with h | h
    · rw [hh] at h; cases h
    · exact h
  · rcases h4 with h | h
    · rw [hc] at h; cases h
    · exact ⟨fun x hx => h.1 x hx, fun x hx => h.2 x hx⟩
theorem put_get (env : Env) (d : Option Nat) (v : Value) (t : Nat) : Env.get (put env d v) t = if d = some t then some v else Env.get env t := by
  cases d with
  | none => simp [put]
  | some s => simp only [put]; rw [Env.get_cons]; by_cases h : s = t <;> simp [h]
theorem Node.more (nd : Node ops T n D env0 env) {i : Nat} {o : Oper} {u : Value} (hi : ops[i]? = some o) (hD : i ∉ D.map (·.1)) (hdeps : ∀ d, d < ops.size → has T i d = true → d ∈ D.map (·.1)) :
    Node ops T n ((i, u) :: D) env0 (put env o.dst u) := by
  have hdi : gJ ops i = o.dst := by simp [gJ, hi]
  refine ⟨by simp only [List.map_cons, List.nodup_cons]; exact ⟨hD, nd.keys⟩, fun j hj => ?_, fun j hj d hd hh => ?_, fun t v hv => ?_, nd.dst⟩
  · rcases List.mem_cons.1 hj with rfl | hj
    · exact (Array.getElem?_eq_some_iff.1 hi).1
    · exact nd.lt j hj
  · rcases List.mem_cons.1 hj with rfl | hj
    · exact List.mem_cons_of_mem _ (hdeps d hd hh)
    · exact List.mem_cons_of_mem _ (nd.deps j hj d hd hh)
  · rw [put_get] at hv
    by_cases hd : o.dst = some t
    · simp [hd] at hv; subst hv
      exact .inl ⟨i, List.mem_cons_self, hdi.trans hd⟩
    · simp only [hd, if_false] at hv
      rcases nd.env t v hv with ⟨j, hj, hjd⟩ | ⟨h1, h2⟩
      · exact .inl ⟨j, List.mem_cons_of_mem _ hj, hjd⟩
      · refine .inr ⟨fun j hj => ?_, h2⟩
        rcases List.mem_cons.1 hj with rfl | hj
        · rw [hdi]; exact hd
        · exact h1 j hj
theorem xK {i : Nat} {o : Oper} {u : Value} (ho : ops[i]? = some o) (hnd : cG o.op = true) (h : ∀ W, Rl X w W → OpG P ops env o W (fun v w' => v = u ∧ w' = W))
    (hk : JD P f ro n R ops T X σ τ ((i, u) :: D) env0 k ds (put env o.dst u) w) : JD P f ro n R ops T X ((i, false) :: σ) τ D env0 k ds env w := by
  intro hT hN hp nd l tmps cs hI
  obtain ⟨hil, hD, hdeps, _, hp'⟩ := kF hp
  have hl : i ∈ l := hI.rest i (by simp)
  have hr := nd.reads hN ho hD hdeps
  refine hk hT hN hp' (nd.more ho hD hdeps) l tmps cs ⟨hI.lin, hI.nodup, fun j hj => ⟨(hI.part j hj).1, ?_⟩, fun j hj => hI.rest j (by simp only [List.map_cons, List.cons_append, List.mem_cons]; exact .inr hj), hI.closed, hI.size, fun t v htv => hI.tm t v ?_, fun j x hj hjl => ?_⟩
  · rcases (hI.part j hj).2 with h1 | h1
    · simp only [List.map_cons, List.cons_append, List.mem_cons] at h1
      rcases h1 with rfl | h1
      · exact .inr (by simp)
      · exact .inl h1
    · exact .inr (List.mem_cons_of_mem _ h1)
  · rcases htv with ⟨j, hj, hjl, hjd⟩ | h1
    · rcases List.mem_cons.1 hj with e | hj
      · cases e; exact absurd hl hjl
      · exact .inl ⟨j, hj, hjl, hjd⟩
    · exact .inr h1
  · rcases List.mem_cons.1 hj with e | hj
    · cases e
      exact ⟨o, env, ho, hnd, fun t v ht hv => (hr t v ht hv).imp (fun ⟨j, h1, h2⟩ => ⟨j, List.mem_cons_of_mem _ h1, h2⟩) id, h⟩
    · exact (hI.pend j x hj hjl).more _
theorem JD_chain {i : Nat} {o : Oper} {S : Value → World → Prop} (ho : ops[i]? = some o) (hnd : cG o.op = true) (h : OpG P ops env o w S) (hS : ∀ v w', S v w' → Rl X w w')
    (hk : ∀ v w', S v w' → JD P f ro n R ops T X σ τ ((i, v) :: D) env0 k ds (put env o.dst v) w') : JD P f ro n R ops T X ((i, true) :: σ) τ D env0 k ds env w := by
  intro hT hN hp nd l tmps cs hI
  obtain ⟨hil, hD, hdeps, hch, hp'⟩ := kF hp
  obtain ⟨hc1, hc2⟩ := hch rfl
  obtain ⟨l', tmps1, hl', hI1, hs1⟩ := Inv.flush (f := f) (ro := ro) (ds := ds) (k := k) hT hN nd hI cs
  have hin : i ∈ l' := hI1.rest i (by simp)
  obtain ⟨r, rfl⟩ : ∃ r, l' = i :: r := by
    rcases hl' with rfl | ⟨j, r, rfl, hj⟩
    · cases hin
    · refine ⟨r, ?_⟩
      rcases List.mem_cons.1 hin with rfl | hin
      · rfl
      · have hne := (List.pairwise_cons.1 hI1.lin).1 i hin
        simp only [List.map_cons, List.cons_append, List.mem_cons, List.mem_append, List.mem_map] at hj
        rcases hj with rfl | ⟨x, hx, rfl⟩ | hx
        · exact absurd hin (List.nodup_cons.1 hI1.nodup).1
        · rw [hc1 x hx] at hne; cases hne
        · rw [hc2 j hx] at hne; cases hne
  have hm := Inv.matches hT hI1 rfl ho (nd.reads hN ho hD hdeps)
  obtain ⟨v, w2, hSv, hst⟩ := OpG.step (f := f) (ro := ro) (ds := ds) (k := k) (l := r) ho hnd h hm cs
  have hE := hS v w2 hSv
  have hnot : i ∉ r := (List.nodup_cons.1 hI1.nodup).1
  have nd' := nd.more (u := v) ho hD hdeps
  have hlt : ∀ t, o.dst = some t → t < tmps1.size := by rw [hI1.size]; exact iT (nd.dst i o ho)
  have hI2 : Inv P ops T X n r (σ.map (·.1) ++ τ) ((i, v) :: D) env0 (Act.put ⟨tmps1, []⟩ o.dst v).tmps w2 := by
   refine ⟨(List.pairwise_cons.1 hI1.lin).2, (List.nodup_cons.1 hI1.nodup).2, fun j hj => ⟨(hI1.part j (List.mem_cons_of_mem _ hj)).1, ?_⟩, fun j hj => ?_,
     fun j hjl hj d hd hdl => ?_, by rw [iN]; exact hI1.size, rP hN nd'.keys ho hnot List.mem_cons_self hlt (fun t u htv => hI1.tm t u ?_), fun j x hj hjl => ?_⟩
   · rcases (hI1.part j (List.mem_cons_of_mem _ hj)).2 with h1 | h1
     · simp only [List.map_cons, List.cons_append, List.mem_cons] at h1
       rcases h1 with rfl | h1
       · exact absurd hj hnot
       · exact .inl h1
     · exact .inr (List.mem_cons_of_mem _ h1)
   · have h1 := hI1.rest j (by simp only [List.map_cons, List.cons_append, List.mem_cons]; exact .inr hj)
     rcases List.mem_cons.1 h1 with rfl | h1
     · exfalso
       rcases List.mem_append.1 hj with hj | hj
       · obtain ⟨x, hx, rfl⟩ := List.mem_map.1 hj
         have := qS hT (x.1 + 1) x.1 (by omega) hil x.1 (hc1 x hx); omega
       · have := qS hT (j + 1) j (by omega) hil j (hc2 j hj); omega
     · exact h1
   · by_cases hji : j = i
     · subst hji; have := (List.pairwise_cons.1 hI1.lin).1 d hdl; rw [hd] at this; cases this
     · exact hI1.closed j hjl (fun hm => by rcases List.mem_cons.1 hm with h | h; exact hji h; exact hj h) d hd (List.mem_cons_of_mem _ hdl)
   · rcases htv with ⟨j, hj, hjl, hjd⟩ | h1
     · rcases List.mem_cons.1 hj with e | hj
       · cases e; exact absurd List.mem_cons_self hjl
       · exact .inl ⟨j, hj, hjl, hjd⟩
     · exact .inr h1
   · rcases List.mem_cons.1 hj with e | hj
     · cases e; exact absurd hjl hnot
     · exact ((hI1.pend j x hj (List.mem_cons_of_mem _ hjl)).ext hE).more _
  obtain ⟨v', w', fr, w'', hR, hs', hf⟩ := hk v w2 hSv hT hN hp' nd' r _ cs hI2
  exact ⟨v', w', fr, w'', hR, hs1.trans (hst.trans hs'), hf⟩
theorem cB (hk : J P f ro n R k ds env w) : JD P f ro n R ops T X [] [] D env0 k ds env w := by
  intro hT hN hp nd l tmps cs hI
  obtain ⟨l', tmps1, hl', hI1, hs1⟩ := Inv.flush (f := f) (ro := ro) (ds := ds) (k := k) hT hN nd hI cs
  obtain rfl : l' = [] := by
    rcases hl' with h | ⟨i, r, _, hi⟩
    · exact h
    · simp at hi
  simp only [planOk, Bool.and_eq_true, List.all_eq_true, List.mem_range, Bool.or_eq_true, List.contains_eq_mem, decide_eq_true_eq, List.not_mem_nil, or_false] at hp
  obtain ⟨v', w', fr, w'', hR, hs', hf⟩ := hk tmps1 cs hI1.size (fun t v hv => hI1.tm t v (by
    rcases nd.env t v hv with ⟨i, hi, hd⟩ | ⟨h1, h2⟩
    · exact .inl ⟨i, hi, by simp, hd⟩
    · refine .inr ⟨fun i hi => ?_, h2⟩
      have hil : i < ops.size := by
        unfold gJ at hi
        cases hx : ops[i]? with
        | none => simp [hx] at hi
        | some x => exact (Array.getElem?_eq_some_iff.1 hx).1
      exact absurd hi (h1 i (hp.1 i hil))))
  exact ⟨v', w', fr, w'', hR, hs1.trans (.head stepR_region_end hs'), hf⟩
theorem zW {l : List Nat} : ∀ {τ D : List Nat}, planOk.tailOk ops.size T τ D = true → l.Nodup → l.Pairwise (fun a b => has T a b = false) → (∀ i, i ∈ l ↔ i ∈ τ) → l = τ := by
  induction l with
  | nil =>
    intro τ D _ _ _ hm
    cases τ with
    | nil => rfl
    | cons h r => exact absurd ((hm h).2 List.mem_cons_self) (by simp)
  | cons x r ih =>
    intro τ D ht hn hp hm
    cases τ with
    | nil => exact absurd ((hm x).1 List.mem_cons_self) (by simp)
    | cons h τ =>
      simp only [planOk.tailOk, Bool.and_eq_true, List.all_eq_true, Bool.not_eq_true', List.contains_eq_mem, decide_eq_false_iff_not] at ht
      have waits : ∀ (τ' D' : List Nat), planOk.tailOk ops.size T τ' D' = true → ∀ y ∈ τ', y ∉ D' ∧ ∀ d ∈ D', has T y d = true := by
        intro τ'
        induction τ' with
        | nil => intro D' _ y hy; cases hy
        | cons a b ihb =>
          intro D' h' y hy
          simp only [planOk.tailOk, Bool.and_eq_true, List.all_eq_true, Bool.not_eq_true', List.contains_eq_mem, decide_eq_false_iff_not] at h'
          rcases List.mem_cons.1 hy with rfl | hy
          · exact ⟨h'.1.1.2, h'.1.2⟩
          · have := ihb _ h'.2 y hy
            exact ⟨fun hd => this.1 (List.mem_cons_of_mem _ hd), fun d hd => this.2 d (List.mem_cons_of_mem _ hd)⟩
      have hx : x = h := by
        rcases List.mem_cons.1 ((hm x).1 List.mem_cons_self) with e | hx
        · exact e
        · have h1 := (waits _ _ ht.2 x hx).2 h List.mem_cons_self
          rcases List.mem_cons.1 ((hm h).2 List.mem_cons_self) with e | h2
          · exact e.symm
          · have := (List.pairwise_cons.1 hp).1 h h2; rw [h1] at this; cases this
      subst hx
      have hr : r = τ := by
        refine ih ht.2 (List.nodup_cons.1 hn).2 (List.pairwise_cons.1 hp).2 (fun i => ⟨fun hi => ?_, fun hi => ?_⟩)
        · rcases List.mem_cons.1 ((hm i).1 (List.mem_cons_of_mem _ hi)) with rfl | h
          · exact absurd hi (List.nodup_cons.1 hn).1
          · exact h
        · rcases List.mem_cons.1 ((hm i).2 (List.mem_cons_of_mem _ hi)) with rfl | h
          · exact absurd List.mem_cons_self (waits _ _ ht.2 i hi).1
          · exact h
      rw [hr]
theorem eS {h : Nat} {os : List Oper} (hos : (h :: τ).map (fun i => ops[i]?) = os.map some) (hk : JL P f ro n R ops os k ds env w) : JD P f ro n R ops T X [] (h :: τ) D env0 k ds env w := by
  intro hT hN hp nd l tmps cs hI
  obtain ⟨l', tmps1, hl', hI1, hs1⟩ := Inv.flush (f := f) (ro := ro) (ds := ds) (k := k) hT hN nd hI cs
  have hin : h ∈ l' := hI1.rest h (by simp)
  simp only [planOk, Bool.and_eq_true, List.all_eq_true, List.mem_range, Bool.or_eq_true, List.contains_eq_mem, decide_eq_true_eq] at hp
  have hp2 := hp.2
  simp only [planOk.tailOk, Bool.and_eq_true, List.all_eq_true, Bool.not_eq_true', List.contains_eq_mem, decide_eq_false_iff_not] at hp2
  have waits : ∀ (τ' D' : List Nat), planOk.tailOk ops.size T τ' D' = true → ∀ y ∈ τ', y ∉ D' ∧ ∀ d ∈ D', has T y d = true := by
    intro τ'
    induction τ' with
    | nil => intro D' _ y hy; cases hy
    | cons a b ihb =>
      intro D' h' y hy
      simp only [planOk.tailOk, Bool.and_eq_true, List.all_eq_true, Bool.not_eq_true', List.contains_eq_mem, decide_eq_false_iff_not] at h'
      rcases List.mem_cons.1 hy with rfl | hy
      · exact ⟨h'.1.1.2, h'.1.2⟩
      · have := ihb _ h'.2 y hy
        exact ⟨fun hd => this.1 (List.mem_cons_of_mem _ hd), fun d hd => this.2 d (List.mem_cons_of_mem _ hd)⟩
  -- the head is in the tail: so nothing that is told is still to come
  have hnone : ∀ d ∈ D.map (·.1), d ∉ l' := by
    rcases hl' with rfl | ⟨j, r, rfl, hj⟩
    · cases hin
    · intro d hd hdl
      have hjw := waits _ _ hp.2 j (by simpa using hj)
      rcases List.mem_cons.1 hdl with rfl | hdl
      · exact hjw.1 hd
      · have := (List.pairwise_cons.1 hI1.lin).1 d hdl
        rw [hjw.2 d hd] at this; cases this
  have heq : l' = h :: τ := by
    refine zW hp.2 hI1.nodup hI1.lin (fun i => ⟨fun hi => ?_, fun hi => hI1.rest i (by simpa using hi)⟩)
    rcases (hI1.part i hi).2 with h1 | h1
    · simpa using h1
    · exact absurd hi (hnone i h1)
  subst heq
  obtain ⟨v', w', fr, w'', hR, hs', hf⟩ := hk (h :: τ) hos tmps1 cs hI1.size (fun t v hv => by
    rcases nd.env t v hv with ⟨i, hi, hd⟩ | ⟨h1, h2⟩
    · exact hI1.tm t v (.inl ⟨i, hi, hnone i (List.mem_map.2 ⟨_, hi, rfl⟩), hd⟩)
    · refine hI1.tm t v (.inr ⟨fun i hi => ?_, h2⟩)
      have hil : i < ops.size := by
        unfold gJ at hi
        cases hx : ops[i]? with
        | none => simp [hx] at hi
        | some x => exact (Array.getElem?_eq_some_iff.1 hx).1
      rcases hp.1 i hil with h3 | h3
      · exact absurd hi (h1 i h3)
      · exact h3)
  exact ⟨v', w', fr, w'', hR, hs1.trans hs', hf⟩
theorem J_draw {id : Nat} (X : Nat → Prop) (T : List Nat) (σ : List (Nat × Bool)) (τ : List Nat) (hm : P.follows .mixedOrders = true) (hreg : regOk ops T σ τ = true) (hdst : ops.toList.all (mQ n) = true)
    (hk : ∀ w1, Ext w w1 → w1.heap = w.heap → JD P f ro n R ops T X σ τ [] env k ds env w1) : J P f ro n R (.code (.region id ops true) :: k) ds env w := by
  intro tmps cs hn hmt
  simp only [regOk, Bool.and_eq_true] at hreg
  obtain ⟨⟨hT, hN⟩, hp⟩ := hreg
  have hs := stepR_region_draw (P := P) (b := base f ro) (a := ⟨tmps, ds⟩) (k := k) (cs := cs) (w := w) (ops := ops) (id := id)
  simp only [Region.schedule, hm, Bool.true_or, if_true] at hs
  have hS := tL hT (w.tape w.drawn (.order (base f ro).fn id))
  have hcover : ∀ (σ' : List (Nat × Bool)) (D' : List Nat), planOk ops.size T σ' τ D' = true → (∀ i, i < ops.size → i ∈ σ'.map (·.1) ++ τ ∨ i ∈ D') ∧ ∀ i ∈ σ'.map (·.1) ++ τ, i < ops.size := by
    intro σ'
    induction σ' with
    | nil =>
      intro D' h
      simp only [planOk, Bool.and_eq_true, List.all_eq_true, List.mem_range, Bool.or_eq_true, List.contains_eq_mem, decide_eq_true_eq] at h
      refine ⟨fun i hi => (h.1 i hi).symm.imp (by simp) (fun h => h), ?_⟩
      have hlt : ∀ (τ' D'' : List Nat), planOk.tailOk ops.size T τ' D'' = true → ∀ y ∈ τ', y < ops.size := by
        intro τ'
        induction τ' with
        | nil => intro D'' _ y hy; cases hy
        | cons a b ihb =>
          intro D'' h' y hy
          simp only [planOk.tailOk, Bool.and_eq_true] at h'
          rcases List.mem_cons.1 hy with rfl | hy
          · simpa using h'.1.1.1
          · exact ihb _ h'.2 y hy
      intro i hi
      exact hlt _ _ h.2 i (by simpa using hi)
    | cons x r ih =>
      intro D' h
      obtain ⟨i0, c⟩ := x
      obtain ⟨h1, _, _, _, h5⟩ := kF h
      obtain ⟨ih1, ih2⟩ := ih _ h5
      refine ⟨fun i hi => ?_, fun i hi => ?_⟩
      · rcases ih1 i hi with h | h
        · exact .inl (by simp only [List.map_cons, List.cons_append, List.mem_cons]; exact .inr h)
        · rcases List.mem_cons.1 h with rfl | h
          · exact .inl (by simp)
          · exact .inr h
      · simp only [List.map_cons, List.cons_append, List.mem_cons] at hi
        rcases hi with rfl | hi
        · exact h1
        · exact ih2 i hi
  obtain ⟨hc1, hc2⟩ := hcover σ [] hp
  have nd : Node ops T n [] env env := ⟨by simp, fun i hi => by simp at hi, fun i hi => by simp at hi, fun t v hv => .inr ⟨fun i hi => by simp at hi, hv⟩, fun i o ho => List.all_eq_true.1 hdst o (by simpa using Array.mem_of_getElem? ho)⟩
  have hI : Inv P ops T X n (Region.linearise .any ops (w.tape w.drawn (.order (base f ro).fn id))) (σ.map (·.1) ++ τ) [] env tmps { w with drawn := w.drawn + 1 } := by
    refine ⟨hS.lin, hS.nodup, fun i hi => ⟨((hS.mem i).1 hi).1, .inl ((hc1 i ((hS.mem i).1 hi).1).resolve_right (by simp))⟩, fun i hi => (hS.mem i).2 ⟨hc2 i hi, fun h => h⟩,
      fun j hj hjl => absurd ((hS.mem j).2 ⟨hj, fun h => h⟩) hjl, hn, fun t v htv => ?_, fun i u hi => by simp at hi⟩
    rcases htv with ⟨i, hi, _⟩ | ⟨_, h2⟩
    · simp at hi
    · exact hmt t v h2
  obtain ⟨v', w', fr, w'', hR, hs', hf⟩ := hk { w with drawn := w.drawn + 1 } (Ext.drew w) rfl hT hN hp nd _ tmps cs hI
  exact ⟨v', w', fr, w'', hR, .head hs hs', hf⟩
end
end Go.Eng
end
section
namespace Go.Eng
open Go.RowKit
class Und (P : Program) (T : Nat) (d : outParam TypeDesc) : Prop where h : P.underlying T = some d
class Sz (P : Program) (T : Nat) (s : outParam Nat) : Prop where h : (P.info? T).map (·.size) = some s
class Byt (P : Program) (T : Nat) (s : outParam Nat) : Prop where h : (P.info? T).map (·.bytes) = some s
class Zer (P : Program) (T : Nat) (v : outParam Value) : Prop where h : (P.info? T).bind (·.zero) = some v
def aggB : TypeDesc → Bool | .struct _ => true | .array _ _ => true | _ => false
class Scal (P : Program) (T : Nat) : Prop where h : (P.underlying T).map aggB = some false
class Agg (P : Program) (T : Nat) (s : outParam Nat) : Prop where
  h : (P.underlying T).map aggB = some true
  s : (P.info? T).map (·.size) = some s
def qX (P : Program) (f : Field) : Option (Nat × Nat × Bool) :=
  match P.info? f.type, P.underlying f.type with
  | some i, some d => some (f.offset, i.size, aggB d)
  | _, _ => none
def iX (P : Program) : List Field → Option (List (Nat × Nat × Bool))
  | [] => some []
  | f :: r => match qX P f, iX P r with | some x, some l => some (x :: l) | _, _ => none
def fieldsOf (P : Program) (T : Nat) : Option (List (Nat × Nat × Bool)) :=
  match P.underlying T with
  | some (.struct fs) => iX P fs.toList
  | _ => none
class Flds (P : Program) (T : Nat) (l : outParam (List (Nat × Nat × Bool))) : Prop where h : fieldsOf P T = some l
section
variable {P : Program} {env : Env} {w w' : World} {dst : Option Tmp} {ty : TypeId} {pos : String} {af : Array Edge} {gd : Option (Nat × Bool)} {S : Value → World → Prop}
theorem oI {T : Nat} {b : Bool} (h : (P.underlying T).map aggB = some b) (w : World) : (isAgg T).run P w = .ok b w := by
  cases hu : P.underlying T with
  | none => simp [hu] at h
  | some d =>
    simp only [hu, Option.map_some, Option.some.injEq] at h
    simp only [isAgg, Sem.run_bind, run_underlying hu, Result.andThen_ok]
    cases d <;> simp [aggB] at h <;> subst h <;> rfl
theorem eT {T s : Nat} (h : (P.info? T).map (·.size) = some s) (w : World) : (sizeOf T).run P w = .ok s w := by
  cases hi : P.info? T with
  | none => simp [hi] at h
  | some i => simp [hi] at h; simp [sizeOf, typeInfo, hi, h]
theorem oP {T : Nat} {v : Value} (h : (P.info? T).bind (·.zero) = some v) (w : World) : (zeroValue T).run P w = .ok v w := by
  cases hi : P.info? T with
  | none => simp [hi] at h
  | some i => simp [hi] at h; simp [zeroValue, typeInfo, hi, h]
theorem flds_at {T : Nat} {l : List (Nat × Nat × Bool)} (h : fieldsOf P T = some l) {i off s : Nat} {b : Bool} (hi : l[i]? = some (off, s, b)) :
    ∃ fs f, P.underlying T = some (.struct fs) ∧ fs[i]? = some f ∧ f.offset = off ∧ (P.info? f.type).map (·.size) = some s ∧ (P.underlying f.type).map aggB = some b := by
  unfold fieldsOf at h
  cases hu : P.underlying T with
  | none => simp [hu] at h
  | some d =>
    cases d <;> simp only [hu] at h <;> try cases h
    rename_i fs
    have hall : ∀ (L : List Field) (l : List (Nat × Nat × Bool)), iX P L = some l → ∀ (j : Nat) (x : Nat × Nat × Bool), l[j]? = some x → ∃ f, L[j]? = some f ∧ qX P f = some x := by
      intro L
      induction L with
      | nil => intro l hl j x hx; simp [iX] at hl; subst hl; simp at hx
      | cons f r ih =>
        intro l hl j x hx
        simp only [iX] at hl
        cases h1 : qX P f with
        | none => simp [h1] at hl
        | some y =>
          cases h2 : iX P r with
          | none => simp [h1, h2] at hl
          | some l' =>
            simp [h1, h2] at hl
            subst hl
            cases j with
            | zero => simp at hx; subst hx; exact ⟨f, by simp, h1⟩
            | succ j => simpa using ih l' h2 j x (by simpa using hx)
    obtain ⟨f, hf, hx⟩ := hall _ _ h i _ hi
    refine ⟨fs, f, rfl, by rw [← Array.getElem?_toList]; exact hf, ?_⟩
    unfold qX at hx
    cases h1 : P.info? f.type with
    | none => simp [h1] at hx
    | some inf =>
      cases h2 : P.underlying f.type with
      | none => simp [h1, h2] at hx
      | some d => simp [h1, h2] at hx; simp [hx]
theorem dV (b o n : Nat) : (⟨b, o, none⟩ : Addr).add n = ⟨b, o + n, none⟩ := by unfold Addr.add; split <;> simp_all
theorem xI {x : Operand} {v : Value} (hx : ev env x = some v) (hS : S v w) : OpR P env ⟨dst, .move x, ty, pos, af, gd⟩ w S :=
  .val (fun _ hm => by simp [execOp, hm.eval hx]) hS
theorem zI {x : Operand} {v : Value} (hx : ev env x = some v) (hS : S v w) : OpR P env ⟨dst, .assign x, ty, pos, af, gd⟩ w S :=
  .val (fun _ hm => by simp [execOp, hm.eval hx]) hS
theorem zC {c x y : Operand} {v : Value} {b : Bool} (hc : ev env c = some (.bool b)) (hb : b = true) (hx : ev env x = some v) (hS : S v w) : OpR P env ⟨dst, .pick c x y, ty, pos, af, gd⟩ w S :=
  .val (fun _ hm => by subst hb; simp [execOp, hm.eval hc, hm.eval hx, asBool]) hS
theorem zD {c x y : Operand} {v : Value} {b : Bool} (hc : ev env c = some (.bool b)) (hb : b = false) (hx : ev env y = some v) (hS : S v w) : OpR P env ⟨dst, .pick c x y, ty, pos, af, gd⟩ w S :=
  .val (fun _ hm => by subst hb; simp [execOp, hm.eval hc, hm.eval hx, asBool]) hS
theorem nX {x : Operand} {a : Addr} (hx : ev env x = some (.pointer (some a))) (hS : S (.pointer (some a)) w) : OpR P env ⟨dst, .nilCheck x, ty, pos, af, gd⟩ w S :=
  .val (fun _ hm => by simp [execOp, hm.eval hx]) hS
theorem cS {T i b o off s : Nat} {g : Bool} {x : Operand} {l : List (Nat × Nat × Bool)} [F : Flds P T l] (hx : ev env x = some (.pointer (some ⟨b, o, none⟩))) (hi : l[i]? = some (off, s + 1, g))
    (hS : S (.pointer (some ⟨b, o + off, none⟩)) w) : OpR P env ⟨dst, .fieldAddr T x i, ty, pos, af, gd⟩ w S :=
  .val (fun _ hm => by
    obtain ⟨fs, f, h1, h2, h3, h4, _⟩ := flds_at F.h hi
    have hz := eT h4 w
    simp [execOp, hm.eval hx, Instr.fieldAt, run_underlying h1, h2, Instr.sureAddr, fieldPlace, hz, h3, dV]) hS
theorem cX {T e sz b o n c : Nat} {k : IntKind} {i : Int} {x ix : Operand} [U : Und P T (.slice e)] [Z : Sz P e sz] (hx : ev env x = some (.slice (some ⟨b, o, none⟩) n c)) (hix : ev env ix = some (.int k i)) (h0 : 0 ≤ i) (h1 : i < n)
    (hS : S (.pointer (some ⟨b, o + i.toNat * sz, none⟩)) w) : OpR P env ⟨dst, .indexAddr T x ix, ty, pos, af, gd⟩ w S :=
  .val (fun _ hm => by
    have hz := eT Z.h w
    simp [execOp, hm.eval hx, hm.eval hix, Instr.indexAt, asIntOf, run_underlying U.h, h0, h1, hz, dV]) hS
theorem nN {T e sz b o n : Nat} {k : IntKind} {i : Int} {x ix : Operand} [U : Und P T (.array n e)] [Z : Sz P e sz] (hx : ev env x = some (.pointer (some ⟨b, o, none⟩))) (hix : ev env ix = some (.int k i)) (h0 : 0 ≤ i) (h1 : i < n)
    (hS : S (.pointer (some ⟨b, o + i.toNat * sz, none⟩)) w) : OpR P env ⟨dst, .indexAddr T x ix, ty, pos, af, gd⟩ w S :=
  .val (fun _ hm => by
    have hz := eT Z.h w
    simp [execOp, hm.eval hx, hm.eval hix, Instr.indexAt, asIntOf, run_underlying U.h, h0, h1, hz, dV, Instr.sureAddr]) hS
theorem wC {x : Operand} {i : Nat} {vs : Array Value} {v : Value} (hx : ev env x = some (.tuple vs)) (hv : vs.toList[i]? = some v) (hS : S v w) : OpR P env ⟨dst, .extract x i, ty, pos, af, gd⟩ w S :=
  .val (fun _ hm => by
    have hv' : vs[i]? = some v := by simpa using hv
    simp [execOp, hm.eval hx, Instr.extract, hv']) hS
theorem uW {fn : Fn} {cap : Array Operand} {cvs : Array Value} (hc : ∀ tmps, Match tmps env → cap.map (Act.eval ⟨tmps, []⟩) = cvs) (hS : S (.func fn #[] cvs) w) : OpR P env ⟨dst, .makeFunc fn #[] cap, ty, pos, af, gd⟩ w S :=
  .val (fun _ hm => by simp [execOp, hc _ hm, Instr.makeFunc]) hS
def evs (env : Env) : List Operand → Option (List Value)
  | [] => some []
  | x :: r => match ev env x, evs env r with | some v, some vs => some (v :: vs) | _, _ => none
theorem aBd {tmps : Array Value} (hm : Match tmps env) : ∀ {l : List Operand} {vs : List Value}, evs env l = some vs → (l.toArray).map (Act.eval ⟨tmps, []⟩) = vs.toArray := by
  intro l
  induction l with
  | nil => intro vs h; simp [evs] at h; subst h; simp
  | cons x r ih =>
    intro vs h
    simp only [evs] at h
    cases hx : ev env x with
    | none => simp [hx] at h
    | some v =>
      cases hr : evs env r with
      | none => simp [hx, hr] at h
      | some us =>
        simp [hx, hr] at h
        subst h
        have := ih hr
        simp only [List.map_toArray, List.map_cons, hm.eval hx] at this ⊢
        simp at this ⊢
        exact this
theorem OpR_func {fn : Fn} {cap : List Operand} {cvs : List Value} (hc : evs env cap = some cvs) (hS : S (.func fn #[] cvs.toArray) w) : OpR P env ⟨dst, .makeFunc fn #[] cap.toArray, ty, pos, af, gd⟩ w S :=
  uW (fun _ hm => aBd hm hc) hS
theorem OpR_len {T e n c : Nat} {a : Option Addr} {x : Operand} [U : Und P T (.slice e)] (hx : ev env x = some (.slice a n c)) (hS : S (.int .i64 n) w) : OpR P env ⟨dst, .call ⟨.builtin .len, #[x], #[T]⟩, ty, pos, af, gd⟩ w S :=
  .val (fun _ hm => by simp [execOp, resolve, invoke, builtin, hm.eval hx, Builtin.len_, run_underlying U.h, goInt]) hS
theorem OpR_len_str {T : Nat} {s : ByteArray} {x : Operand} [U : Und P T .string] (hx : ev env x = some (.string s)) (hS : S (.int .i64 s.size) w) : OpR P env ⟨dst, .call ⟨.builtin .len, #[x], #[T]⟩, ty, pos, af, gd⟩ w S :=
  .val (fun _ hm => by simp [execOp, resolve, invoke, builtin, hm.eval hx, Builtin.len_, run_underlying U.h, goInt]) hS
theorem OpR_len_arr {T e n : Nat} {v : Value} {x : Operand} [U : Und P T (.array n e)] (hx : ev env x = some v) (hS : S (.int .i64 n) w) : OpR P env ⟨dst, .call ⟨.builtin .len, #[x], #[T]⟩, ty, pos, af, gd⟩ w S :=
  .val (fun _ hm => by simp [execOp, resolve, invoke, builtin, hm.eval hx, Builtin.len_, run_underlying U.h, goInt]) hS
theorem OpR_min {T : Array TypeId} {k : IntKind} {a b : Int} {x y : Operand} (hx : ev env x = some (.int k a)) (hy : ev env y = some (.int k b)) (hS : S (.int k (min a b)) w) : OpR P env ⟨dst, .call ⟨.builtin .min, #[x, y], T⟩, ty, pos, af, gd⟩ w S :=
  .val (fun _ hm => by
    have : min a b = if b < a then b else a := by omega
    simp [execOp, resolve, invoke, builtin, hm.eval hx, hm.eval hy, Builtin.min_, Builtin.min2, this]) hS
def ibin (op : BinOp) (k : IntKind) (a b : Int) : Option Value :=
  match op with
  | .add => some (.int k (k.wrap (a + b)))
  | .sub => some (.int k (k.wrap (a - b)))
  | .mul => some (.int k (k.wrap (a * b)))
  | .eql => some (.bool (decide (a = b)))
  | .neq => some (.bool (decide (a ≠ b)))
  | .lss => some (.bool (decide (a < b)))
  | .leq => some (.bool (decide (a ≤ b)))
  | .gtr => some (.bool (decide (b < a)))
  | .geq => some (.bool (decide (b ≤ a)))
  | _ => none
theorem gR {op : BinOp} {T T' : Nat} {k : IntKind} {a b : Int} {v : Value} {x y : Operand} (hx : ev env x = some (.int k a)) (hy : ev env y = some (.int k b)) (hv : ibin op k a b = some v) (hS : S v w) :
    OpR P env ⟨dst, .binOp op T x y T', ty, pos, af, gd⟩ w S :=
  .val (fun tmps hm => by
    have e1 : ∀ o, eqGuard o T x y (.int k a) (.int k b) = (if !(o matches .eql | .neq) then pure () else pure ()) := fun o => by cases o <;> rfl
    cases op <;> simp only [ibin, Option.some.injEq] at hv <;> try (cases hv; done)
    all_goals
      subst hv
      simp [execOp, hm.eval hx, hm.eval hy, eqGuard, binOp, Op.intArith, Op.intCmp]
    all_goals (first | rfl | (congr 2; simp [bne, BEq.beq])) ) hS
theorem OpR_add {T T' : Nat} {a b : Int} {x y : Operand} (hx : ev env x = some (.int .i64 a)) (hy : ev env y = some (.int .i64 b)) (hb : -9223372036854775808 ≤ a + b ∧ a + b ≤ 9223372036854775807) (hS : S (.int .i64 (a + b)) w) :
    OpR P env ⟨dst, .binOp .add T x y T', ty, pos, af, gd⟩ w S := gR hx hy rfl (by rwa [IntWalk.i64_in _ (by omega)])
theorem OpR_sub {T T' : Nat} {a b : Int} {x y : Operand} (hx : ev env x = some (.int .i64 a)) (hy : ev env y = some (.int .i64 b)) (hb : -9223372036854775808 ≤ a - b ∧ a - b ≤ 9223372036854775807) (hS : S (.int .i64 (a - b)) w) :
    OpR P env ⟨dst, .binOp .sub T x y T', ty, pos, af, gd⟩ w S := gR hx hy rfl (by rwa [IntWalk.i64_in _ (by omega)])
theorem jU {T T' : Nat} {a b : Int} {x y : Operand} (hx : ev env x = some (.int .i64 a)) (hy : ev env y = some (.int .i64 b)) (hb : -9223372036854775808 ≤ a * b ∧ a * b ≤ 9223372036854775807) (hS : S (.int .i64 (a * b)) w) :
    OpR P env ⟨dst, .binOp .mul T x y T', ty, pos, af, gd⟩ w S := gR hx hy rfl (by rwa [IntWalk.i64_in _ hb])
theorem rB {T : Nat} [U : Und P T .bool] (a b : Bool) : (Op.equal T (.bool a) (.bool b)).run P w = .ok (a == b) w := by
  have e : Op.equal T (.bool a) (.bool b) = Op.equalIn (9999 + 1) T (.bool a) (.bool b) := rfl
  rw [e, Op.equalIn]
  simp only [Sem.run_bind, run_underlying U.h, Result.andThen_ok, Sem.run_pure]
theorem OpR_beq {T T' : Nat} {a b : Bool} {x y : Operand} [U : Und P T .bool] (hx : ev env x = some (.bool a)) (hy : ev env y = some (.bool b)) (hS : S (.bool (a == b)) w) : OpR P env ⟨dst, .binOp .eql T x y T', ty, pos, af, gd⟩ w S :=
  .val (fun _ hm => by simp [execOp, hm.eval hx, hm.eval hy, eqGuard, binOp, rB]) hS
theorem OpR_bne {T T' : Nat} {a b : Bool} {x y : Operand} [U : Und P T .bool] (hx : ev env x = some (.bool a)) (hy : ev env y = some (.bool b)) (hS : S (.bool (a != b)) w) : OpR P env ⟨dst, .binOp .neq T x y T', ty, pos, af, gd⟩ w S :=
  .val (fun _ hm => by simp [execOp, hm.eval hx, hm.eval hy, eqGuard, binOp, rB, bne]) hS
theorem OpR_not {T : Nat} {a : Bool} {x : Operand} (hx : ev env x = some (.bool a)) (hS : S (.bool (!a)) w) : OpR P env ⟨dst, .unOp .not T x, ty, pos, af, gd⟩ w S :=
  .val (fun _ hm => by simp [execOp, hm.eval hx, Op.unary]) hS
theorem kZ {T T' : Nat} {k k' : IntKind} {a : Int} {d : TypeDesc} {x : Operand} [U : Und P T d] [U' : Und P T' (.int k')] (hx : ev env x = some (.int k a)) (hS : S (.int k' (k'.wrap a)) w) : OpR P env ⟨dst, .convert T T' x, ty, pos, af, gd⟩ w S :=
  .val (fun _ hm => by simp [execOp, hm.eval hx, convert, run_underlying U.h, run_underlying U'.h, Conv.intToInt]) hS
end
end Go.Eng
end
section
namespace Go.Eng
open Go.RowKit
structure HP where
  foot : Nat → Prop
  holds : World → Prop
  loc : ∀ w w' : World, (∀ k, foot k → w'.heap[k]? = w.heap[k]?) → holds w → holds w'
def Blk (b : Nat) (o : Obj) : HP := ⟨fun k => k = b, fun w => w.heap[b]? = some o, fun _ _ h hw => (h b rfl).trans hw⟩
def Junk (b : Nat) : HP := ⟨fun k => k = b, fun _ => True, fun _ _ _ h => h⟩
structure Frm (F : Nat → Prop) (w w' : World) : Prop where
  os : w'.os = w.os
  tape : w'.tape = w.tape
  output : w'.output = w.output
  size : w.heap.size ≤ w'.heap.size
  old : ∀ k, k < w.heap.size → ¬ F k → w'.heap[k]? = w.heap[k]?
  drawn : w.drawn ≤ w'.drawn
theorem Ext.frm {w w' : World} (h : Ext w w') (F : Nat → Prop) : Frm F w w' := ⟨h.os, h.tape, h.output, h.size, fun k hk _ => h.block k hk, h.drawn⟩
theorem Frm.ext {w w' : World} (h : Frm (fun _ => False) w w') : Ext w w' := ⟨h.os, h.tape, h.output, h.size, fun k hk => h.old k hk id, h.drawn⟩
structure St (w0 : World) (F : Nat → Prop) (w : World) (L : List HP) : Prop where
  frm : Frm F w0 w
  all : ∀ c ∈ L, c.holds w
  foot : ∀ c ∈ L, ∀ k, c.foot k → k < w.heap.size ∧ (F k ∨ w0.heap.size ≤ k)
  sep : L.Pairwise (fun c d => ∀ k, c.foot k → ¬ d.foot k)
abbrev NoF : Nat → Prop := fun _ => False
structure Fresh (w w' : World) (L : List HP) : Prop where
  ext : Ext w w'
  all : ∀ c ∈ L, c.holds w'
  foot : ∀ c ∈ L, ∀ k, c.foot k → w.heap.size ≤ k ∧ k < w'.heap.size
  sep : L.Pairwise (fun c d => ∀ k, c.foot k → ¬ d.foot k)
section
variable {w0 w w' : World} {F : Nat → Prop} {L L' M : List HP} {c c' : HP}
theorem St.init (w : World) : St w NoF w [] := ⟨⟨rfl, rfl, rfl, Nat.le_refl _, fun _ _ _ => rfl, Nat.le_refl _⟩, by simp, by simp, List.Pairwise.nil⟩
theorem St.initF (w : World) (F : Nat → Prop) (h : ∀ c ∈ L, c.holds w ∧ ∀ k, c.foot k → k < w.heap.size ∧ F k) (hs : L.Pairwise (fun c d => ∀ k, c.foot k → ¬ d.foot k)) : St w F w L :=
  ⟨⟨rfl, rfl, rfl, Nat.le_refl _, fun _ _ _ => rfl, Nat.le_refl _⟩, fun c hc => (h c hc).1, fun c hc k hk => ⟨((h c hc).2 k hk).1, .inl ((h c hc).2 k hk).2⟩, hs⟩
theorem St.ext (h : St w0 F w L) (e : Ext w w') : St w0 F w' L := by
  have hs := e.size
  refine ⟨⟨e.os.trans h.frm.os, e.tape.trans h.frm.tape, e.output.trans h.frm.output, Nat.le_trans h.frm.size hs, fun k hk hf => ?_, Nat.le_trans h.frm.drawn e.drawn⟩, fun c hc => c.loc w w' (fun k hk => e.block k (h.foot c hc k hk).1) (h.all c hc), fun c hc k hk => ?_, h.sep⟩
  · rw [e.block k (Nat.lt_of_lt_of_le hk h.frm.size)]; exact h.frm.old k hk hf
  · have := h.foot c hc k hk; exact ⟨by omega, this.2⟩
theorem St.fresh (h : St w0 F w L) (n : Fresh w w' M) : St w0 F w' (M ++ L) := by
  have h' := h.ext n.ext
  refine ⟨h'.frm, fun c hc => ?_, fun c hc k hk => ?_, List.pairwise_append.2 ⟨n.sep, h.sep, fun a ha b hb k hk hk' => ?_⟩⟩
  · rcases List.mem_append.1 hc with hc | hc
    · exact n.all c hc
    · exact h'.all c hc
  · rcases List.mem_append.1 hc with hc | hc
    · have := n.foot c hc k hk; have := h.frm.size; exact ⟨by omega, .inr (by omega)⟩
    · exact h'.foot c hc k hk
  · have h1 := n.foot a ha k hk
    have h2 := h.foot b hb k hk'
    omega
theorem Fresh.alloc (w : World) (o : Obj) : Fresh w (w.alloc o) [Blk w.heap.size o] := by
  refine ⟨.of ((Below.refl _ w).alloc (Nat.le_refl _) _) (Nat.le_refl _), fun c hc => ?_, fun c hc k hk => ?_, by simp⟩
  · simp at hc; subst hc; exact heap_alloc_new w o
  · simp at hc; subst hc; simp only [Blk] at hk; subst hk; simp
theorem St.out (h : St w0 NoF w L) (hs : M.Sublist L) : Fresh w0 w M :=
  ⟨h.frm.ext, fun c hc => h.all c (hs.subset hc), fun c hc k hk => by have := h.foot c (hs.subset hc) k hk; exact ⟨this.2.resolve_left id, this.1⟩, h.sep.sublist hs⟩
theorem St.sub (h : St w0 F w L) (hs : M.Sublist L) : St w0 F w M :=
  ⟨h.frm, fun c hc => h.all c (hs.subset hc), fun c hc k hk => h.foot c (hs.subset hc) k hk, h.sep.sublist hs⟩
theorem St.perm (h : St w0 F w L) (hp : L.Perm M) : St w0 F w M :=
  ⟨h.frm, fun c hc => h.all c (hp.symm.subset hc), fun c hc k hk => h.foot c (hp.symm.subset hc) k hk, h.sep.perm hp (fun {_ _} hs k hk hk' => hs k hk' hk)⟩
theorem St.conv (h : St w0 F w (c :: L)) (hf : ∀ k, c'.foot k → c.foot k) (hh : c.holds w → c'.holds w) : St w0 F w (c' :: L) := by
  refine ⟨h.frm, fun d hd => ?_, fun d hd k hk => ?_, List.pairwise_cons.2 ⟨fun d hd k hk => (List.pairwise_cons.1 h.sep).1 d hd k (hf k hk), (List.pairwise_cons.1 h.sep).2⟩⟩
  · rcases List.mem_cons.1 hd with rfl | hd
    · exact hh (h.all _ List.mem_cons_self)
    · exact h.all d (List.mem_cons_of_mem _ hd)
  · rcases List.mem_cons.1 hd with rfl | hd
    · exact h.foot _ List.mem_cons_self k (hf k hk)
    · exact h.foot d (List.mem_cons_of_mem _ hd) k hk
def Two (c d : HP) : HP := ⟨fun k => c.foot k ∨ d.foot k, fun w => c.holds w ∧ d.holds w, fun w w' h hw => ⟨c.loc w w' (fun k hk => h k (.inl hk)) hw.1, d.loc w w' (fun k hk => h k (.inr hk)) hw.2⟩⟩
theorem St.join (h : St w0 F w (c :: c' :: L)) : St w0 F w (Two c c' :: L) := by
  refine ⟨h.frm, fun d hd => ?_, fun d hd k hk => ?_, ?_⟩
  · rcases List.mem_cons.1 hd with rfl | hd
    · exact ⟨h.all c (by simp), h.all c' (by simp)⟩
    · exact h.all d (by simp [hd])
  · rcases List.mem_cons.1 hd with rfl | hd
    · rcases hk with hk | hk
      · exact h.foot c (by simp) k hk
      · exact h.foot c' (by simp) k hk
    · exact h.foot d (by simp [hd]) k hk
  · obtain ⟨h1, h2⟩ := List.pairwise_cons.1 h.sep
    obtain ⟨h3, h4⟩ := List.pairwise_cons.1 h2
    refine List.pairwise_cons.2 ⟨fun d hd k hk => ?_, h4⟩
    rcases hk with hk | hk
    · exact h1 d (by simp [hd]) k hk
    · exact h3 d hd k hk
inductive Up : List HP → HP → HP → List HP → Prop
  | head (c c' : HP) (L : List HP) : Up (c :: L) c c' (c' :: L)
  | tail (d : HP) {L : List HP} {c c' : HP} {L' : List HP} (h : Up L c c' L') : Up (d :: L) c c' (d :: L')
theorem Up.mem (h : Up L c c' L') : c ∈ L := by
  induction h with
  | head => exact List.mem_cons_self
  | tail _ _ ih => exact List.mem_cons_of_mem _ ih
theorem Up.mem' {d : HP} (h : Up L c c' L') (hd : d ∈ L') : d = c' ∨ (d ∈ L ∧ ((∀ e ∈ L, True) → True)) := by
  induction h with
  | head => rcases List.mem_cons.1 hd with h | h; exact .inl h; exact .inr ⟨List.mem_cons_of_mem _ h, fun _ => trivial⟩
  | tail _ _ ih =>
    rcases List.mem_cons.1 hd with h | h
    · exact .inr ⟨h ▸ List.mem_cons_self, fun _ => trivial⟩
    · rcases ih h with h | h
      · exact .inl h
      · exact .inr ⟨List.mem_cons_of_mem _ h.1, fun _ => trivial⟩
theorem St.turn (h : St w0 F w L) (u : Up L c c' L') (f : Frm c.foot w w') (hh : c'.holds w') (hf : ∀ k, c'.foot k → k < w'.heap.size ∧ (c.foot k ∨ w.heap.size ≤ k)) : St w0 F w' L' := by
  have hsz := f.size
  have hc := u.mem
  have frm : Frm F w0 w' := ⟨f.os.trans h.frm.os, f.tape.trans h.frm.tape, f.output.trans h.frm.output, Nat.le_trans h.frm.size hsz, fun k hk hnf => by
    rw [f.old k (Nat.lt_of_lt_of_le hk h.frm.size) (fun hck => by
      rcases (h.foot c hc k hck).2 with h1 | h1
      · exact hnf h1
      · omega)]
    exact h.frm.old k hk hnf, Nat.le_trans h.frm.drawn f.drawn⟩
  have hall := h.all
  have hfoot := h.foot
  have hsep := h.sep
  have main : (∀ d ∈ L', d.holds w' ∧ ∀ k, d.foot k → k < w'.heap.size ∧ (F k ∨ w0.heap.size ≤ k)) ∧ L'.Pairwise (fun c d => ∀ k, c.foot k → ¬ d.foot k) := by
    have hle := h.frm.size
    have hfc := h.foot c hc
    clear h hc frm
    induction u with
    | head c c' L =>
      obtain ⟨hs1, hs2⟩ := List.pairwise_cons.1 hsep
      refine ⟨fun d hd => ?_, List.pairwise_cons.2 ⟨fun d hd k hk hk' => ?_, hs2⟩⟩
      · rcases List.mem_cons.1 hd with rfl | hd
        · refine ⟨hh, fun k hk => ⟨(hf k hk).1, ?_⟩⟩
          rcases (hf k hk).2 with h1 | h1
          · exact (hfc k h1).2
          · exact .inr (by omega)
        · have hdl := hfoot d (List.mem_cons_of_mem _ hd)
          exact ⟨d.loc w w' (fun k hk => f.old k (hdl k hk).1 (fun hck => hs1 d hd k hck hk)) (hall d (List.mem_cons_of_mem _ hd)), fun k hk => ⟨by have := (hdl k hk).1; omega, (hdl k hk).2⟩⟩
      · rcases (hf k hk).2 with h1 | h1
        · exact hs1 d hd k h1 hk'
        · have := (hfoot d (List.mem_cons_of_mem _ hd) k hk').1; omega
    | tail d u ih =>
      obtain ⟨hs1, hs2⟩ := List.pairwise_cons.1 hsep
      obtain ⟨i1, i2⟩ := ih f hh hf (fun d hd => hall d (List.mem_cons_of_mem _ hd)) (fun d hd => hfoot d (List.mem_cons_of_mem _ hd)) hs2 hfc
      have hdl := hfoot d List.mem_cons_self
      refine ⟨fun e he => ?_, List.pairwise_cons.2 ⟨fun e he k hk hk' => ?_, i2⟩⟩
      · rcases List.mem_cons.1 he with rfl | he
        · exact ⟨e.loc w w' (fun k hk => f.old k (hdl k hk).1 (fun hck => hs1 _ u.mem k hk hck)) (hall e List.mem_cons_self), fun k hk => ⟨by have := (hdl k hk).1; omega, (hdl k hk).2⟩⟩
        · exact i1 e he
      · rcases u.mem' he with rfl | ⟨he, _⟩
        · rcases (hf k hk').2 with h1 | h1
          · exact hs1 _ u.mem k hk h1
          · have := (hdl k hk).1; omega
        · exact hs1 e he k hk hk'
  exact ⟨frm, fun d hd => (main.1 d hd).1, fun d hd => (main.1 d hd).2, main.2⟩
class BlkAt (L : List HP) (b : Nat) (o : outParam Obj) : Prop where mem : Blk b o ∈ L
instance (priority := low) BlkAt.tail {L : List HP} {b : Nat} {o : Obj} {c : HP} [h : BlkAt L b o] : BlkAt (c :: L) b o := ⟨List.mem_cons_of_mem _ h.mem⟩
instance BlkAt.head {L : List HP} {b : Nat} {o : Obj} : BlkAt (Blk b o :: L) b o := ⟨List.mem_cons_self⟩
class BlkUp (L : List HP) (b : Nat) (o : outParam Obj) (o' : Obj) (L' : outParam (List HP)) : Prop where up : Up L (Blk b o) (Blk b o') L'
instance (priority := low) BlkUp.tail {L : List HP} {b : Nat} {o o' : Obj} {L' : List HP} {c : HP} [h : BlkUp L b o o' L'] : BlkUp (c :: L) b o o' (c :: L') := ⟨.tail _ h.up⟩
instance BlkUp.head {L : List HP} {b : Nat} {o o' : Obj} : BlkUp (Blk b o :: L) b o o' (Blk b o' :: L) := ⟨.head ..⟩
theorem St.blk (h : St w0 F w L) {b : Nat} {o : Obj} [m : BlkAt L b o] : w.heap[b]? = some o := h.all _ m.mem
theorem St.lt (h : St w0 F w L) {b : Nat} {o : Obj} [m : BlkAt L b o] : b < w.heap.size := (h.foot _ m.mem b rfl).1
theorem cA {b off e : Nat} {cs : Array Value} {fz : Nat × Nat} {v : Value} (h : w.heap[b]? = some (.cells cs e fz)) (hv : cs.toList[off]? = some v) : w.cell? ⟨b, off, none⟩ = some v := by
  rw [cell_of_row w b off cs e fz h]; simpa using hv
theorem fT {b : Nat} {o' : Obj} (w : World) : Frm (Blk b o').foot w { w with heap := w.heap.setIfInBounds b o' } :=
  ⟨rfl, rfl, rfl, by simp, fun k _ hnf => by
    have : b ≠ k := fun e => hnf e.symm
    simp [Array.getElem?_setIfInBounds_ne this], Nat.le_refl _⟩
theorem kD {b e : Nat} {cs cs' : Array Value} {fz : Nat × Nat} (h : w.heap[b]? = some (.cells cs e fz)) : w.setRow b cs' = { w with heap := w.heap.setIfInBounds b (.cells cs' e fz) } := by
  unfold World.setRow
  congr 1
  apply Array.ext_getElem?
  intro i
  rw [Array.getElem?_modify, Array.getElem?_setIfInBounds]
  split
  · rename_i hi; subst hi
    have hlt : b < w.heap.size := (Array.getElem?_eq_some_iff.1 h).1
    rw [h]; simp [hlt]
  · rfl
theorem St.set (h : St w0 F w L) {b : Nat} {o o' : Obj} [u : BlkUp L b o o' L'] : St w0 F { w with heap := w.heap.setIfInBounds b o' } L' := by
  have hm := u.up.mem
  have hlt := (h.foot _ hm b rfl).1
  exact h.turn u.up (fT (b := b) (o' := o') w) (by simp [Blk, hlt]) (fun k hk => by simp only [Blk] at hk; subst hk; exact ⟨by simpa using hlt, .inl rfl⟩)
theorem St.old_cell (h : St w0 NoF w L) {p : Addr} {v : Value} (hp : w0.cell? p = some v) : w.cell? p = some v :=
  (World.cell?_of_block (h.frm.old _ (World.block_lt_of_cell? w0 p hp) id)).trans hp
end
section
variable {P : Program} {env : Env} {w0 w w' : World} {F : Nat → Prop} {L L' : List HP} {dst : Option Tmp} {ty : TypeId} {pos : String} {af : Array Edge} {gd : Option (Nat × Bool)} {S : Value → World → Prop}
def qG (w0 : World) (F : Nat → Prop) (w : World) (L : List HP) (o : Obj) (mk : Nat → Value) (v : Value) (w' : World) : Prop :=
  ∃ b, v = mk b ∧ w.heap.size ≤ b ∧ St w0 F w' (Blk b o :: L) ∧ Ext w w'
theorem newAt (hs : St w0 F w L) (o : Obj) (mk : Nat → Value) : qG w0 F w L o mk (mk w.heap.size) (w.alloc o) :=
  ⟨_, rfl, Nat.le_refl _, hs.fresh (Fresh.alloc w o), (Fresh.alloc w o).ext⟩
def ptr (b : Nat) : Value := .pointer (some ⟨b, 0, none⟩)
theorem aCc {T : Nat} {z : Value} [Z : Zer P T z] (hs : St w0 F w L) : OpR P env ⟨dst, .alloc T, ty, pos, af, gd⟩ w (qG w0 F w L (.cells z.cells T (0, 0)) ptr) :=
  .val (w' := w.alloc (.cells z.cells T (0, 0))) (v := ptr w.heap.size) (fun _ _ => by
    simp only [execOp, Instr.alloc, Sem.run_bind, oP Z.h, Result.andThen_ok, newVar, newRow, run_newObj, Sem.run_pure]; rfl) (newAt hs _ _)
theorem OpR_box {T : Nat} {x : Operand} {v : Value} (hs : St w0 F w L) (hx : ev env x = some v) : OpR P env ⟨dst, .box T x, ty, pos, af, gd⟩ w (qG w0 F w L (.cells v.cells T (0, 0)) ptr) :=
  .val (w' := w.alloc (.cells v.cells T (0, 0))) (v := ptr w.heap.size) (fun _ hm => by
    simp only [execOp, Instr.box, hm.eval hx, Sem.run_bind, Result.andThen_ok, newVar, newRow, run_newObj, Sem.run_pure]; rfl) (newAt hs _ _)
theorem bL {T b off : Nat} {x : Operand} {v : Value} [A : Scal P T] (hc : w.cell? ⟨b, off, none⟩ = some v) (hx : ev env x = some (.pointer (some ⟨b, off, none⟩))) (hS : S v w) : OpR P env ⟨dst, .load T x, ty, pos, af, gd⟩ w S :=
  .val (fun _ hm => by
    simp only [execOp, hm.eval hx, Instr.loadAt, Instr.sureAddr, loadVar, Sem.run_bind, Sem.run_pure, Result.andThen_ok, oI A.h, Bool.false_eq_true, if_false, run_load, hc]) hS
theorem fI {T b off s : Nat} {x : Operand} {vs : List Value} [A : Agg P T s] (hl : vs.length = s) (hc : ∀ j v, vs[j]? = some v → w.cell? ⟨b, off + j, none⟩ = some v) (hx : ev env x = some (.pointer (some ⟨b, off, none⟩)))
    (hS : S (.agg vs.toArray) w) : OpR P env ⟨dst, .load T x, ty, pos, af, gd⟩ w S :=
  .val (fun _ hm => by
    have h2 := run_loadCells_list (P := P) w ⟨b, off, none⟩ vs (fun j v hv => by rw [dV]; exact hc j v hv)
    rw [hl] at h2
    simp only [execOp, hm.eval hx, Instr.loadAt, Instr.sureAddr, loadVar, Sem.run_bind, Sem.run_pure, Result.andThen_ok, oI A.h, if_true, eT A.s, h2]) hS
def bR (cs : List Value) (off : Nat) (vs : List Value) : List Value := cs.take off ++ vs ++ cs.drop (off + vs.length)
theorem jX {T b off e : Nat} {v : Value} {cs : Array Value} [Z : Sz P T v.cells.toList.length] (hb : w.heap[b]? = some (.cells cs e (0, 0))) (hl : off + v.cells.toList.length ≤ cs.size) (h1 : v.cells.toList.all (·.oneCell') = true) :
    (storeVar T ⟨b, off, none⟩ v).run P w = .ok () { w with heap := w.heap.setIfInBounds b (.cells (bR cs.toList off v.cells.toList).toArray e (0, 0)) } := by
  have h2 := run_storeCells_at P b off e v.cells.toList 0 cs w hb (by simpa using hl) (fun u hu => List.all_eq_true.1 h1 u hu)
  have hz := eT Z.h w
  simp only [Nat.add_zero] at h2
  have hsz : ¬ (v.cells.size ≠ v.cells.toList.length) := by simp
  simp only [storeVar, Sem.run_bind, hz, Result.andThen_ok, Sem.run_ite, if_neg hsz, h2, kD hb, bR]
theorem aB6 {T b off e : Nat} {x y : Operand} {v : Value} {cs : Array Value} {cs' : List Value} (hs : St w0 F w L) (hx : ev env x = some (.pointer (some ⟨b, off, none⟩))) (hy : ev env y = some v) [Z : Sz P T v.cells.toList.length]
    [m : BlkAt L b (.cells cs e (0, 0))] (hcs : bR cs.toList off v.cells.toList = cs') [u : BlkUp L b (.cells cs e (0, 0)) (.cells cs'.toArray e (0, 0)) L']
    (hl : off + v.cells.toList.length ≤ cs.toList.length) (h1 : v.cells.toList.all (·.oneCell') = true) :
    OpR P env ⟨dst, .store T x y, ty, pos, af, gd⟩ w (fun _ w' => St w0 F w' L' ∧ Frm (fun k => k = b) w w') :=
  .unit (w' := { w with heap := w.heap.setIfInBounds b (.cells (bR cs.toList off v.cells.toList).toArray e (0, 0)) }) (fun _ hm => by
    have := jX (P := P) (T := T) (off := off) (v := v) (St.blk (b := b) (o := .cells cs e (0, 0)) hs) (by simpa using hl) h1
    simp only [execOp, hm.eval hx, hm.eval hy, Instr.storeAt, Instr.sureAddr, Sem.run_bind, Sem.run_pure, Result.andThen_ok, this])
    (by subst hcs; exact ⟨hs.set (u := u), fT w⟩)
end
end Go.Eng
end
section
namespace Go.Eng
open Go.RowKit
section
variable {P : Program} {f : FuncId} {ro : Option Nat} {n : Nat} {R : Value → World → Prop} {k : List Item} {ds : List Deferred} {env env0 : Env} {w w0 : World} {F : Nat → Prop} {L : List HP}
variable {ops : Array Oper} {os : List Oper} {T : List Nat} {X : Nat → Prop} {D : List (Nat × Value)} {σ : List (Nat × Bool)} {τ : List Nat}
variable {dst : Option Tmp} {op : Op} {ty : TypeId} {pos : String} {af : Array Edge} {v : Value}
def Is (v : Value) (w : World) : Value → World → Prop := fun v' w' => v' = v ∧ w' = w
theorem aI : Is v w v w := ⟨rfl, rfl⟩
theorem aC {t : Nat} (h : OpR P env ⟨some t, op, ty, pos, af, none⟩ w (Is v w)) (hd : Nat.blt t n = true) (hs : cG op = true) (hk : JL P f ro n R ops os k ds ((t, v) :: env) w) :
    JL P f ro n R ops (⟨some t, op, ty, pos, af, none⟩ :: os) k ds env w := JL_op h (fun _ _ ⟨e1, e2⟩ => by rw [e1, e2]; exact hk) hd hs
theorem JL_o {t : Nat} {S : Value → World → Prop} (h : OpR P env ⟨some t, op, ty, pos, af, none⟩ w S) (hd : Nat.blt t n = true) (hs : cG op = true) (hk : ∀ v w', S v w' → JL P f ro n R ops os k ds ((t, v) :: env) w') :
    JL P f ro n R ops (⟨some t, op, ty, pos, af, none⟩ :: os) k ds env w := JL_op h hk hd hs
theorem JL_u {S : Value → World → Prop} (h : OpR P env ⟨none, op, ty, pos, af, none⟩ w S) (hs : cG op = true) (hk : ∀ v w', S v w' → JL P f ro n R ops os k ds env w') :
    JL P f ro n R ops (⟨none, op, ty, pos, af, none⟩ :: os) k ds env w := JL_op h hk rfl hs
theorem bM {t : Nat} {j : Nat} {u b : Bool} {S : Value → World → Prop} (hg : gval ops env j = some b) (hb : b = u) (h : OpR P env ⟨some t, op, ty, pos, af, some (j, u)⟩ w S) (hd : Nat.blt t n = true) (hs : cG op = true) (hk : ∀ v w', S v w' → JL P f ro n R ops os k ds ((t, v) :: env) w') :
    JL P f ro n R ops (⟨some t, op, ty, pos, af, some (j, u)⟩ :: os) k ds env w := JL_on hg hb h hk hd hs
theorem cY {t : Nat} {j : Nat} {u b : Bool} (hg : gval ops env j = some b) (hb : b = !u) (hd : Nat.blt t n = true) (hk : JL P f ro n R ops os k ds ((t, undef) :: env) w) :
    JL P f ro n R ops (⟨some t, op, ty, pos, af, some (j, u)⟩ :: os) k ds env w := JL_off hg hb hk hd
theorem qC {t : Nat} {j : Nat} {u : Bool} (hg : Gund ops env j) (hd : Nat.blt t n = true) (hk : JL P f ro n R ops os k ds ((t, undef) :: env) w) :
    JL P f ro n R ops (⟨some t, op, ty, pos, af, some (j, u)⟩ :: os) k ds env w := JL_und hg hk hd
theorem bA {t : Nat} {j : Nat} {u b : Bool} (hg : gval ops env j = some b) (hb : b = u) (h : OpR P env ⟨some t, op, ty, pos, af, some (j, u)⟩ w (Is v w)) (hd : Nat.blt t n = true) (hs : cG op = true) (hk : JL P f ro n R ops os k ds ((t, v) :: env) w) :
    JL P f ro n R ops (⟨some t, op, ty, pos, af, some (j, u)⟩ :: os) k ds env w := JL_on hg hb h (fun _ _ ⟨e1, e2⟩ => by rw [e1, e2]; exact hk) hd hs
theorem JL_split {j : Nat} {u b : Bool} (hg : gval ops env j = some b) (ht : b = u → JL P f ro n R ops (⟨dst, op, ty, pos, af, some (j, u)⟩ :: os) k ds env w) (hf : b = !u → JL P f ro n R ops (⟨dst, op, ty, pos, af, some (j, u)⟩ :: os) k ds env w) :
    JL P f ro n R ops (⟨dst, op, ty, pos, af, some (j, u)⟩ :: os) k ds env w := by
  cases b <;> cases u <;> first | exact ht rfl | exact hf rfl
theorem vA {j : Nat} {u : Bool} {p : Prop} [Decidable p] (_ : gval ops env j = some (decide p)) (ht : p → JL P f ro n R ops (⟨dst, op, ty, pos, af, some (j, u)⟩ :: os) k ds env w) (hf : ¬ p → JL P f ro n R ops (⟨dst, op, ty, pos, af, some (j, u)⟩ :: os) k ds env w) :
    JL P f ro n R ops (⟨dst, op, ty, pos, af, some (j, u)⟩ :: os) k ds env w := by
  by_cases h : p
  · exact ht h
  · exact hf h
theorem nO {c : Operand} {x y : Code} {p : Prop} [Decidable p] (hc : ev env c = some (.bool (decide p))) (ht : p → J P f ro n R (.code x :: k) ds env w) (hf : ¬ p → J P f ro n R (.code y :: k) ds env w) :
    J P f ro n R (.code (.cond c x y) :: k) ds env w := aCg hc (fun h => ht (of_decide_eq_true h)) (fun h => hf (of_decide_eq_false h))
theorem aS {c : Operand} {x y : Code} {p : Prop} [Decidable p] (hc : ev env c = some (.bool (decide p))) (hp : p) (ht : J P f ro n R (.code x :: k) ds env w) : J P f ro n R (.code (.cond c x y) :: k) ds env w := nO hc (fun _ => ht) (fun h => absurd hp h)
theorem aZ {c : Operand} {x y : Code} {p : Prop} [Decidable p] (hc : ev env c = some (.bool (decide p))) (hp : ¬ p) (hf : J P f ro n R (.code y :: k) ds env w) : J P f ro n R (.code (.cond c x y) :: k) ds env w := nO hc (fun h => absurd h hp) (fun _ => hf)
theorem bB {c : Operand} {x y : Code} {b : Bool} (hc : ev env c = some (.bool b)) (hb : b = true) (ht : J P f ro n R (.code x :: k) ds env w) : J P f ro n R (.code (.cond c x y) :: k) ds env w := aCg hc (fun _ => ht) (fun h => by rw [hb] at h; cases h)
theorem bD {c : Operand} {x y : Code} {b : Bool} (hc : ev env c = some (.bool b)) (hb : b = false) (hf : J P f ro n R (.code y :: k) ds env w) : J P f ro n R (.code (.cond c x y) :: k) ds env w := aCg hc (fun h => by rw [hb] at h; cases h) (fun _ => hf)
theorem sZ {cal : Operand} {args : List Operand} {at_ : Array TypeId} {gd : Option (Nat × Bool)} {fv : Value} {avs : List Value} {S : Value → World → Prop} (hc : ev env cal = some fv) (ha : evs env args = some avs) (hv : RetV P fv avs.toArray w S) :
    OpR P env ⟨dst, .call ⟨.value cal, args.toArray, at_⟩, ty, pos, af, gd⟩ w S := by
  obtain ⟨d, nx, w1, h1, h2, h3⟩ := hv
  refine ⟨nx, w1, h3, fun tmps hm => ?_⟩
  simp only [execOp, resolve, hm.eval hc, aBd hm ha, Sem.run_bind, h1, Result.andThen_ok, h2]
theorem aA {g : FuncId} {args : List Operand} {at_ : Array TypeId} {gd : Option (Nat × Bool)} {avs : List Value} {S : Value → World → Prop} (he : bH P g) (ha : evs env args = some avs) (hv : Ret P g avs.toArray w S) :
    OpR P env ⟨dst, .call ⟨.value (.func g), args.toArray, at_⟩, ty, pos, af, gd⟩ w S := sZ rfl ha (Ret.value he (by simpa using hv))
theorem RetV.closure {g : FuncId} {avs cap : List Value} {S : Value → World → Prop} (he : bH P g) (hv : Ret P g (avs ++ cap).toArray w S) : RetV P (.func (.func g) #[] cap.toArray) avs.toArray w S := Ret.value he (by simpa using hv)
inductive ResOk (P : Program) (env : Env) (w : World) : List ResultVar → List Value → Prop
  | nil : ResOk P env w [] []
  | tmp {t : Nat} {v : Value} {l : List ResultVar} {vs : List Value} (h : Env.get env t = some v) (r : ResOk P env w l vs) : ResOk P env w (.tmp t :: l) (v :: vs)
  | cell {t T b s : Nat} {us : List Value} {l : List ResultVar} {vs : List Value} (A : Agg P T s) (h : Env.get env t = some (.pointer (some ⟨b, 0, none⟩))) (hl : us.length = s) (hc : ∀ j v, us[j]? = some v → w.cell? ⟨b, j, none⟩ = some v) (r : ResOk P env w l vs) :
      ResOk P env w (.cell t T :: l) (.agg us.toArray :: vs)
  | one {t T b : Nat} {v : Value} {l : List ResultVar} {vs : List Value} (A : Scal P T) (h : Env.get env t = some (.pointer (some ⟨b, 0, none⟩))) (hc : w.cell? ⟨b, 0, none⟩ = some v) (r : ResOk P env w l vs) :
      ResOk P env w (.cell t T :: l) (v :: vs)
def kJ : List Value → Value
  | [v] => v
  | vs => .tuple vs.toArray
def tN (tmps : Array Value) : ResultVar → Sem Value
  | .tmp t => pure (tmps.getD t undef)
  | .cell a t => do loadVar t (← asAddr (tmps.getD a undef))
theorem vM {tmps : Array Value} {t : Nat} {v : Value} (h : tmps[t]? = some v) : tmps.getD t undef = v := by simp [Array.getD_eq_getD_getElem?, h]
theorem ResOk.run {l : List ResultVar} {vs : List Value} (h : ResOk P env w l vs) {tmps : Array Value} (hm : Match tmps env) {fn : Func} (hf : fn.results = l.toArray) : (results fn tmps).run P w = .ok (kJ vs) w := by
  have key : (l.mapM (tN tmps)).run P w = Result.ok vs w := by
    clear hf
    induction h with
    | nil => rfl
    | tmp h r ih => simp only [List.mapM_cons, Sem.run_bind, tN, Sem.run_pure, Result.andThen_ok, ih, vM (hm _ _ h)]
    | @cell t T b s us l vs A h hl hc r ih =>
      have h2 := run_loadCells_list (P := P) w ⟨b, 0, none⟩ us (fun j v hv => by rw [dV, Nat.zero_add]; exact hc j v hv)
      rw [hl] at h2
      simp only [List.mapM_cons, Sem.run_bind, tN, vM (hm _ _ h), asAddr, loadVar, oI A.h, eT A.s, h2, ih, Sem.run_pure, Result.andThen_ok, if_true]
    | one A h hc r ih => simp only [List.mapM_cons, Sem.run_bind, tN, vM (hm _ _ h), asAddr, loadVar, oI A.h, hc, ih, Sem.run_pure, Result.andThen_ok, Bool.false_eq_true, if_false, run_load]
  have e : results fn tmps = (do let vs ← fn.results.mapM (tN tmps); pure (if h : vs.size = 1 then vs[0] else .tuple vs)) := rfl
  rw [e, hf]
  simp only [List.mapM_toArray, Sem.run_bind, Sem.run_map, key, Result.andThen_ok, Sem.run_pure]
  cases vs with
  | nil => rfl
  | cons v r =>
    cases r with
    | nil => rfl
    | cons u r => rfl
theorem ResOk.agg {t T b s e : Nat} {cs : Array Value} {fz : Nat × Nat} {us : List Value} {l : List ResultVar} {vs : List Value} [A : Agg P T s] (hs : St w0 F w L) (h : Env.get env t = some (.pointer (some ⟨b, 0, none⟩))) [m : BlkAt L b (.cells cs e fz)] (hcs : cs.toList = us) (hl : us.length = s) (r : ResOk P env w l vs) :
    ResOk P env w (.cell t T :: l) (.agg us.toArray :: vs) := .cell A h hl (fun j v hj => cA hs.blk (by rw [hcs]; exact hj)) r
theorem ResOk.scal {t T b e : Nat} {cs : Array Value} {fz : Nat × Nat} {v : Value} {l : List ResultVar} {vs : List Value} [A : Scal P T] (hs : St w0 F w L) (h : Env.get env t = some (.pointer (some ⟨b, 0, none⟩))) [m : BlkAt L b (.cells cs e fz)] (hcs : cs.toList[0]? = some v) (r : ResOk P env w l vs) :
    ResOk P env w (.cell t T :: l) (v :: vs) := .one A h (cA hs.blk hcs) r
theorem aM {fn : Func} {l : List ResultVar} {vs : List Value} (hf : P.funcs[f]? = some fn) (hl : fn.results = l.toArray) (h : ResOk P env w l vs) (hR : R (kJ vs) w) : J P f none n R (.code .ret :: k) [] env w :=
  J_ret hf (fun _ hm => h.run hm hl) hR
theorem eI {fn : Func} {l : List ResultVar} {vs : List Value} (hf : P.funcs[f]? = some fn) (hl : fn.results = l.toArray) (h : ResOk P env w l vs) (hR : R (kJ vs) w) : J P f none n R [] [] env w :=
  J_end hf (fun _ hm => h.run hm hl) hR
theorem iV {o : Oper} {S : Value → World → Prop} (hg : o.guard = none) (h : OpR P env o w S) : OpG P ops env o w S := by unfold OpG; rw [hg]; exact h
theorem OpG_on {o : Oper} {S : Value → World → Prop} {j : Nat} {u b : Bool} (hg : o.guard = some (j, u)) (hv : gval ops env j = some b) (hb : b = u) (h : OpR P env o w S) : OpG P ops env o w S := by unfold OpG; rw [hg]; exact .inl ⟨b, hv, .inl ⟨hb, h⟩⟩
theorem tC {o : Oper} {S : Value → World → Prop} {j : Nat} {u b : Bool} (hg : o.guard = some (j, u)) (hv : gval ops env j = some b) (hb : b = !u) (h : S undef w) : OpG P ops env o w S := by unfold OpG; rw [hg]; exact .inl ⟨b, hv, .inr ⟨hb, h⟩⟩
theorem aCd {o : Oper} {S : Value → World → Prop} {j : Nat} {u : Bool} (hg : o.guard = some (j, u)) (hv : Gund ops env j) (h : S undef w) : OpG P ops env o w S := by unfold OpG; rw [hg]; exact .inr ⟨hv, h⟩
theorem JD_f_off {i t : Nat} {j : Nat} {c b : Bool} (ho : ops[i]? = some ⟨some t, op, ty, pos, af, some (j, c)⟩) (hv : gval ops env j = some b) (hb : b = !c) (hnd : cG op = true)
    (hk : JD P f ro n R ops T X σ τ ((i, undef) :: D) env0 k ds ((t, undef) :: env) w) : JD P f ro n R ops T X ((i, false) :: σ) τ D env0 k ds env w :=
  xK ho hnd (fun _ _ => tC rfl hv hb ⟨rfl, rfl⟩) hk
theorem JD_split {i : Nat} {o : Option Tmp} {j : Nat} {c b : Bool} {q : Bool} (_ : ops[i]? = some ⟨o, op, ty, pos, af, some (j, c)⟩) (_ : gval ops env j = some b)
    (ht : b = c → JD P f ro n R ops T X ((i, q) :: σ) τ D env0 k ds env w) (hf : b = !c → JD P f ro n R ops T X ((i, q) :: σ) τ D env0 k ds env w) : JD P f ro n R ops T X ((i, q) :: σ) τ D env0 k ds env w := by
  cases b <;> cases c <;> first | exact ht rfl | exact hf rfl
theorem JD_split_dec {i : Nat} {o : Option Tmp} {j : Nat} {c : Bool} {q : Bool} {p : Prop} [Decidable p] (_ : ops[i]? = some ⟨o, op, ty, pos, af, some (j, c)⟩) (_ : gval ops env j = some (decide p))
    (ht : p → JD P f ro n R ops T X ((i, q) :: σ) τ D env0 k ds env w) (hf : ¬ p → JD P f ro n R ops T X ((i, q) :: σ) τ D env0 k ds env w) : JD P f ro n R ops T X ((i, q) :: σ) τ D env0 k ds env w := by
  by_cases h : p
  · exact ht h
  · exact hf h
theorem JD_c_off {i t : Nat} {j : Nat} {c b : Bool} (ho : ops[i]? = some ⟨some t, op, ty, pos, af, some (j, c)⟩) (hv : gval ops env j = some b) (hb : b = !c) (hnd : cG op = true)
    (hk : JD P f ro n R ops T X σ τ ((i, undef) :: D) env0 k ds ((t, undef) :: env) w) : JD P f ro n R ops T X ((i, true) :: σ) τ D env0 k ds env w :=
  JD_chain (S := Is undef w) ho hnd (tC rfl hv hb aI) (fun _ _ ⟨_, e⟩ => by rw [e]; exact Rl.refl _) (fun _ _ ⟨e1, e2⟩ => by rw [e1, e2]; exact hk)
theorem nP {i t : Nat} {u : Value} (ho : ops[i]? = some ⟨some t, op, ty, pos, af, none⟩) (h : ∀ W, Rl X w W → OpR P env ⟨some t, op, ty, pos, af, none⟩ W (Is u W)) (hnd : cG op = true)
    (hk : JD P f ro n R ops T X σ τ ((i, u) :: D) env0 k ds ((t, u) :: env) w) : JD P f ro n R ops T X ((i, false) :: σ) τ D env0 k ds env w :=
  xK ho hnd (fun W hE => iV rfl (h W hE)) hk
theorem aB0 {S : Value → World → Prop} {gd : Option (Nat × Bool)} {x : Operand} (h : OpR P env ⟨dst, .move x, ty, pos, af, gd⟩ w S) : OpR P env ⟨dst, .move x, ty, pos, af, gd⟩ w S := h
theorem aB1 {S : Value → World → Prop} {gd : Option (Nat × Bool)} {x : Operand} (h : OpR P env ⟨dst, .assign x, ty, pos, af, gd⟩ w S) : OpR P env ⟨dst, .assign x, ty, pos, af, gd⟩ w S := h
theorem as_pick {S : Value → World → Prop} {gd : Option (Nat × Bool)} {c x y : Operand} (h : OpR P env ⟨dst, .pick c x y, ty, pos, af, gd⟩ w S) : OpR P env ⟨dst, .pick c x y, ty, pos, af, gd⟩ w S := h
theorem aR {S : Value → World → Prop} {gd : Option (Nat × Bool)} {T : Nat} (h : OpR P env ⟨dst, .alloc T, ty, pos, af, gd⟩ w S) : OpR P env ⟨dst, .alloc T, ty, pos, af, gd⟩ w S := h
theorem bN {S : Value → World → Prop} {gd : Option (Nat × Bool)} {T : Nat} {x : Operand} (h : OpR P env ⟨dst, .box T x, ty, pos, af, gd⟩ w S) : OpR P env ⟨dst, .box T x, ty, pos, af, gd⟩ w S := h
theorem aT {S : Value → World → Prop} {gd : Option (Nat × Bool)} {T : Nat} {x : Operand} (h : OpR P env ⟨dst, .load T x, ty, pos, af, gd⟩ w S) : OpR P env ⟨dst, .load T x, ty, pos, af, gd⟩ w S := h
theorem aP {S : Value → World → Prop} {gd : Option (Nat × Bool)} {T : Nat} {x y : Operand} (h : OpR P env ⟨dst, .store T x y, ty, pos, af, gd⟩ w S) : OpR P env ⟨dst, .store T x y, ty, pos, af, gd⟩ w S := h
theorem pV {S : Value → World → Prop} {gd : Option (Nat × Bool)} {x : Operand} (h : OpR P env ⟨dst, .nilCheck x, ty, pos, af, gd⟩ w S) : OpR P env ⟨dst, .nilCheck x, ty, pos, af, gd⟩ w S := h
theorem as_unOp {S : Value → World → Prop} {gd : Option (Nat × Bool)} {o : UnOp} {T : Nat} {x : Operand} (h : OpR P env ⟨dst, .unOp o T x, ty, pos, af, gd⟩ w S) : OpR P env ⟨dst, .unOp o T x, ty, pos, af, gd⟩ w S := h
theorem rD {S : Value → World → Prop} {gd : Option (Nat × Bool)} {T T' : Nat} {x : Operand} (h : OpR P env ⟨dst, .convert T T' x, ty, pos, af, gd⟩ w S) : OpR P env ⟨dst, .convert T T' x, ty, pos, af, gd⟩ w S := h
theorem dE {S : Value → World → Prop} {gd : Option (Nat × Bool)} {T i : Nat} {x : Operand} (h : OpR P env ⟨dst, .fieldAddr T x i, ty, pos, af, gd⟩ w S) : OpR P env ⟨dst, .fieldAddr T x i, ty, pos, af, gd⟩ w S := h
theorem dD {S : Value → World → Prop} {gd : Option (Nat × Bool)} {T : Nat} {x y : Operand} (h : OpR P env ⟨dst, .indexAddr T x y, ty, pos, af, gd⟩ w S) : OpR P env ⟨dst, .indexAddr T x y, ty, pos, af, gd⟩ w S := h
theorem yZ {S : Value → World → Prop} {gd : Option (Nat × Bool)} {i : Nat} {x : Operand} (h : OpR P env ⟨dst, .extract x i, ty, pos, af, gd⟩ w S) : OpR P env ⟨dst, .extract x i, ty, pos, af, gd⟩ w S := h
theorem vZ {S : Value → World → Prop} {gd : Option (Nat × Bool)} {g : Fn} {a b : Array Operand} (h : OpR P env ⟨dst, .makeFunc g a b, ty, pos, af, gd⟩ w S) : OpR P env ⟨dst, .makeFunc g a b, ty, pos, af, gd⟩ w S := h
theorem dA {S : Value → World → Prop} {gd : Option (Nat × Bool)} {T : Nat} {x : Operand} {a b c : Option Operand} (h : OpR P env ⟨dst, .slice T x a b c, ty, pos, af, gd⟩ w S) : OpR P env ⟨dst, .slice T x a b c, ty, pos, af, gd⟩ w S := h
theorem as_build {S : Value → World → Prop} {gd : Option (Nat × Bool)} {T : Nat} {a : Array (Nat × Operand)} (h : OpR P env ⟨dst, .build T a, ty, pos, af, gd⟩ w S) : OpR P env ⟨dst, .build T a, ty, pos, af, gd⟩ w S := h
theorem bJ {S : Value → World → Prop} {gd : Option (Nat × Bool)} {T m : Nat} {a : Array (Nat × Operand)} (h : OpR P env ⟨dst, .buildSlice T m a, ty, pos, af, gd⟩ w S) : OpR P env ⟨dst, .buildSlice T m a, ty, pos, af, gd⟩ w S := h
theorem eP {S : Value → World → Prop} {gd : Option (Nat × Bool)} {T : Nat} {x y : Operand} (h : OpR P env ⟨dst, .makeSlice T x y, ty, pos, af, gd⟩ w S) : OpR P env ⟨dst, .makeSlice T x y, ty, pos, af, gd⟩ w S := h
theorem cI {S : Value → World → Prop} {gd : Option (Nat × Bool)} {o : BinOp} {T T' : Nat} {x y : Operand} (h : OpR P env ⟨dst, .binOp o T x y T', ty, pos, af, gd⟩ w S) : OpR P env ⟨dst, .binOp o T x y T', ty, pos, af, gd⟩ w S := h
theorem as_add {S : Value → World → Prop} {gd : Option (Nat × Bool)} {T T' : Nat} {x y : Operand} (h : OpR P env ⟨dst, .binOp .add T x y T', ty, pos, af, gd⟩ w S) : OpR P env ⟨dst, .binOp .add T x y T', ty, pos, af, gd⟩ w S := h
theorem as_sub {S : Value → World → Prop} {gd : Option (Nat × Bool)} {T T' : Nat} {x y : Operand} (h : OpR P env ⟨dst, .binOp .sub T x y T', ty, pos, af, gd⟩ w S) : OpR P env ⟨dst, .binOp .sub T x y T', ty, pos, af, gd⟩ w S := h
theorem as_b_len {S : Value → World → Prop} {gd : Option (Nat × Bool)} {a : Array Operand} {T : Array TypeId} (h : OpR P env ⟨dst, .call ⟨.builtin .len, a, T⟩, ty, pos, af, gd⟩ w S) : OpR P env ⟨dst, .call ⟨.builtin .len, a, T⟩, ty, pos, af, gd⟩ w S := h
theorem bW {S : Value → World → Prop} {gd : Option (Nat × Bool)} {a : Array Operand} {T : Array TypeId} (h : OpR P env ⟨dst, .call ⟨.builtin .append, a, T⟩, ty, pos, af, gd⟩ w S) : OpR P env ⟨dst, .call ⟨.builtin .append, a, T⟩, ty, pos, af, gd⟩ w S := h
theorem fH {S : Value → World → Prop} {gd : Option (Nat × Bool)} {a : Array Operand} {T : Array TypeId} (h : OpR P env ⟨dst, .call ⟨.builtin .copy, a, T⟩, ty, pos, af, gd⟩ w S) : OpR P env ⟨dst, .call ⟨.builtin .copy, a, T⟩, ty, pos, af, gd⟩ w S := h
theorem as_b_min {S : Value → World → Prop} {gd : Option (Nat × Bool)} {a : Array Operand} {T : Array TypeId} (h : OpR P env ⟨dst, .call ⟨.builtin .min, a, T⟩, ty, pos, af, gd⟩ w S) : OpR P env ⟨dst, .call ⟨.builtin .min, a, T⟩, ty, pos, af, gd⟩ w S := h
theorem bG {i : Nat} (h : J P f ro n R (.code (.exit i) :: k) ds env w) : J P f ro n R (.code (.exit i) :: k) ds env w := h
theorem aG {c : Operand} {x y : Code} (h : J P f ro n R (.code (.cond c x y) :: k) ds env w) : J P f ro n R (.code (.cond c x y) :: k) ds env w := h
theorem bV {i : Nat} {o : Array Oper} (h : J P f ro n R (.code (.region i o true) :: k) ds env w) : J P f ro n R (.code (.region i o true) :: k) ds env w := h
theorem bK {j : Nat} {u : Bool} (h : JL P f ro n R ops (⟨dst, op, ty, pos, af, some (j, u)⟩ :: os) k ds env w) : JL P f ro n R ops (⟨dst, op, ty, pos, af, some (j, u)⟩ :: os) k ds env w := h
theorem aF {t : Nat} (h : JL P f ro n R ops (⟨some t, op, ty, pos, af, none⟩ :: os) k ds env w) : JL P f ro n R ops (⟨some t, op, ty, pos, af, none⟩ :: os) k ds env w := h
theorem aU (h : JL P f ro n R ops (⟨none, op, ty, pos, af, none⟩ :: os) k ds env w) : JL P f ro n R ops (⟨none, op, ty, pos, af, none⟩ :: os) k ds env w := h
end
end Go.Eng
end
section
namespace Go.Eng
open Go.RowKit
def RowV (w : World) (a : Option Addr) (n c e sz : Nat) (xs : List Value) : Prop :=
  xs.length = n * sz ∧ n ≤ c ∧ c ≤ maxLen ∧ ((a = none ∧ c = 0) ∨ ∃ g o cur, a = some ⟨g, o, none⟩ ∧ w.heap[g]? = some (.cells cur e (0, 0)) ∧ o + c * sz ≤ cur.size ∧ (cur.toList.drop o).take (n * sz) = xs)
def dH (a : Option Addr) : Nat → Prop := fun k => a.map (·.block) = some k
theorem RowV.loc {w w' : World} {a : Option Addr} {n c e sz : Nat} {xs : List Value} (h : RowV w a n c e sz xs) (hk : ∀ k, dH a k → w'.heap[k]? = w.heap[k]?) : RowV w' a n c e sz xs := by
  obtain ⟨h1, h2, h3, h4⟩ := h
  refine ⟨h1, h2, h3, h4.imp id ?_⟩
  rintro ⟨g, o, cur, rfl, hg, r⟩
  exact ⟨g, o, cur, rfl, (hk g rfl).trans hg, r⟩
def Row (a : Option Addr) (n c e sz : Nat) (xs : List Value) : HP := ⟨dH a, fun w => RowV w a n c e sz xs, fun _ _ h hw => hw.loc h⟩
inductive Ctx : List HP → HP → (HP → List HP) → Prop
  | head (c : HP) (L : List HP) : Ctx (c :: L) c (fun x => x :: L)
  | tail (d : HP) {L : List HP} {c : HP} {f : HP → List HP} (h : Ctx L c f) : Ctx (d :: L) c (fun x => d :: f x)
theorem Ctx.up {L : List HP} {c : HP} {f : HP → List HP} (h : Ctx L c f) (c' : HP) : Up L c c' (f c') := by
  induction h with
  | head c L => exact .head ..
  | tail d _ ih => exact .tail _ ih
class RowAt (L : List HP) (a : Option Addr) (n c : Nat) (e sz : outParam Nat) (xs : outParam (List Value)) (f : outParam (HP → List HP)) : Prop where ctx : Ctx L (Row a n c e sz xs) f
instance (priority := low) RowAt.tail {L : List HP} {a : Option Addr} {n c e sz : Nat} {xs : List Value} {f : HP → List HP} {d : HP} [h : RowAt L a n c e sz xs f] : RowAt (d :: L) a n c e sz xs (fun x => d :: f x) := ⟨.tail _ h.ctx⟩
instance RowAt.head {L : List HP} {a : Option Addr} {n c e sz : Nat} {xs : List Value} : RowAt (Row a n c e sz xs :: L) a n c e sz xs (fun x => x :: L) := ⟨.head ..⟩
section
variable {w0 w w' : World} {F : Nat → Prop} {L L' : List HP} {a : Option Addr} {n c e sz : Nat} {xs : List Value} {f : HP → List HP}
theorem St.row (h : St w0 F w L) (a : Option Addr) (n c : Nat) [m : RowAt L a n c e sz xs f] : RowV w a n c e sz xs := h.all _ (m.ctx.up (Junk 0)).mem
theorem RowV.cells (h : RowV w a n c e sz xs) {b o : Nat} (ha : a = some ⟨b, o, none⟩) {j : Nat} {v : Value} (hj : xs[j]? = some v) : w.cell? ⟨b, o + j, none⟩ = some v := by
  obtain ⟨h1, h2, h3, h4⟩ := h
  rcases h4 with ⟨rfl, _⟩ | ⟨g, o', cur, rfl, hg, hsz, ht⟩
  · cases ha
  · cases ha
    refine cA hg ?_
    subst ht
    rw [List.getElem?_take] at hj
    split at hj
    · simpa using hj
    · cases hj
theorem RowV.some (h : RowV w a n c e sz xs) (hp : 0 < n) : ∃ b o, a = some ⟨b, o, none⟩ := by
  obtain ⟨h1, h2, h3, h4⟩ := h
  rcases h4 with ⟨_, hc⟩ | ⟨g, o', cur, rfl, _⟩
  · omega
  · exact ⟨g, o', rfl⟩
theorem RowV.len (h : RowV w a n c e sz xs) : xs.length = n * sz := h.1
theorem lD (w : World) (e sz : Nat) : RowV w none 0 0 e sz [] := ⟨by simp, Nat.le_refl _, by simp [maxLen], .inl ⟨rfl, rfl⟩⟩
theorem St.nilRow (h : St w0 F w L) (e sz : Nat) : St w0 F w (Row none 0 0 e sz [] :: L) :=
  ⟨h.frm, fun d hd => by rcases List.mem_cons.1 hd with rfl | hd; exact lD w e sz; exact h.all d hd,
    fun d hd k hk => by
      rcases List.mem_cons.1 hd with rfl | hd
      · simp [Row, dH] at hk
      · exact h.foot d hd k hk,
    List.pairwise_cons.2 ⟨fun d _ k hk => by simp [Row, dH] at hk, h.sep⟩⟩
theorem St.toRow {b e : Nat} {cs : Array Value} (h : St w0 F w (Blk b (.cells cs e (0, 0)) :: L)) (o n c sz : Nat) (hn : n ≤ c) (hc : c ≤ maxLen) (ho : o + c * sz ≤ cs.size) (hx : (cs.toList.drop o).take (n * sz) = xs) : St w0 F w (Row (some ⟨b, o, none⟩) n c e sz xs :: L) := by
  refine h.conv (fun k hk => ?_) (fun hh => ⟨?_, hn, hc, .inr ⟨b, o, cs, rfl, hh, ho, hx⟩⟩)
  · simp [Row, dH] at hk; exact hk.symm
  · subst hx
    simp only [List.length_take, List.length_drop, Array.length_toList]
    have : n * sz ≤ c * sz := Nat.mul_le_mul_right _ hn
    omega
theorem St.cutRow (h : St w0 F w (Row a n c e sz xs :: L)) (n' c' : Nat) (hn : n' ≤ n) (hnc : n' ≤ c') (hc : c' ≤ c) : St w0 F w (Row a n' c' e sz (xs.take (n' * sz)) :: L) := by
  refine h.conv (fun k hk => hk) (fun hh => ?_)
  obtain ⟨h1, h2, h3, h4⟩ := hh
  refine ⟨?_, hnc, by omega, h4.imp (fun ⟨x, y⟩ => ⟨x, by omega⟩) ?_⟩
  · rw [List.length_take, h1]; exact Nat.min_eq_left (Nat.mul_le_mul_right _ hn)
  · rintro ⟨g, o, cur, rfl, hg, hsz, ht⟩
    refine ⟨g, o, cur, rfl, hg, ?_, ?_⟩
    · have : c' * sz ≤ c * sz := Nat.mul_le_mul_right _ hc; omega
    · rw [← ht, List.take_take, Nat.min_eq_left (Nat.mul_le_mul_right _ hn)]
end
def Src (w : World) (a : Option Addr) (m sz : Nat) (news : List Value) : Prop :=
  news.length = m * sz ∧ (a = none → m = 0) ∧ (∀ u ∈ news, u.oneCell' = true) ∧ ∀ b o, a = some ⟨b, o, none⟩ → ∀ j u, news[j]? = some u → w.cell? ⟨b, o + j, none⟩ = some u
def iF (a : Option Addr) : Prop := ∀ ad, a = some ad → ad.spot = none
theorem dW {P : Program} {w : World} {a : Option Addr} {m l c sz : Nat} {news : List Value} (h : Src w a m sz news) (hp : 0 < m → iF a) : (Builtin.firstCells sz m (.slice a l c)).run P w = .ok news.toArray w := by
  obtain ⟨h1, h2, _, h4⟩ := h
  cases a with
  | none =>
    have : m = 0 := h2 rfl
    subst this
    have : news = [] := List.eq_nil_of_length_eq_zero (by simpa using h1)
    subst this
    exact run_firstCells_none w sz 0 l c
  | some ad =>
    by_cases hm0 : m = 0
    · subst hm0
      have : news = [] := List.eq_nil_of_length_eq_zero (by simpa using h1)
      subst this
      exact run_firstCells_some w sz 0 ad l c [] (by simp) (by simp)
    obtain ⟨b, o, s⟩ := ad
    have hs : s = none := hp (by omega) _ rfl
    subst hs
    exact run_firstCells_some w sz m ⟨b, o, none⟩ l c news h1 (fun j v hj => by rw [dV]; exact h4 b o rfl j v hj)
section
variable {P : Program} {env : Env} {w0 w w' : World} {F : Nat → Prop} {L L' : List HP} {dst : Option Tmp} {ty : TypeId} {pos : String} {af : Array Edge} {gd : Option (Nat × Bool)} {S : Value → World → Prop}
theorem pJ {e : Nat} {sz by_ : Nat} {z : Value} [Z : Sz P e sz] [B : Byt P e by_] [Zr : Zer P e z] : ∃ i : TypeInfo, P.info? e = some i ∧ i.size = sz ∧ i.bytes = by_ ∧ i.zero = some z := by
  have h1 := Z.h; have h2 := B.h; have h3 := Zr.h
  cases hi : P.info? e with
  | none => simp [hi] at h1
  | some i => simp [hi] at h1 h2 h3; exact ⟨i, rfl, h1, h2, h3⟩
theorem qE {t t' e e' : Nat} {sz by_ : Nat} {z : Value} [U : Und P t (.slice e)] [U' : Und P t' (.slice e')] [Z : Sz P e sz] [B : Byt P e by_] [Zr : Zer P e z] (hz : z.cells.size = sz) (ty : TypeId)
    {a ax : Option Addr} {n c m cx : Nat} {xs news : List Value} (hr : RowV w a n c e sz xs) (hx : Src w ax m sz news) (hp : 0 < m → iF ax) (hb : (n + m) * by_ ≤ 140737488355328) (h63 : n + m ≤ maxLen) :
    ∃ a' c' w', (Builtin.append_ #[t, t'] ty #[.slice a n c, .slice ax m cx]).run P w = .ok (.slice a' (n + m) c') w' ∧ RowV w' a' (n + m) c' e sz (xs ++ news) ∧ Frm (dH a) w w' ∧
      (∀ k, dH a' k → k < w'.heap.size ∧ (dH a k ∨ w.heap.size ≤ k)) ∧ (a' = none ↔ a = none ∧ m = 0) := by
  obtain ⟨i, hi, hi1, hi2, hi3⟩ := pJ (P := P) (e := e) (sz := sz) (by_ := by_) (z := z)
  have hfx := dW (P := P) (l := m) (c := cx) hx hp
  obtain ⟨hl, hnc, hcm, hcase⟩ := hr
  have hlx := hx.1
  have hsrc1 : (Builtin.lenOf (.slice ax m cx)).run P w = .ok m w := rfl
  by_cases hroom : n + m ≤ c
  · -- room
    rcases hcase with ⟨rfl, hc0⟩ | ⟨g, o, cur, rfl, hg, hsz, ht⟩
    · have hm0 : m = 0 := by omega
      have hn0 : n = 0 := by omega
      subst hm0 hn0 hc0
      have hn : news = [] := List.eq_nil_of_length_eq_zero (by simpa using hlx)
      subst hn
      have hx0 : xs = [] := List.eq_nil_of_length_eq_zero (by simpa using hl)
      subst hx0
      refine ⟨none, 0, w, ?_, lD w e sz, ⟨rfl, rfl, rfl, Nat.le_refl _, fun _ _ _ => rfl, Nat.le_refl _⟩, fun k hk => by simp [dH] at hk, by simp⟩
      simp [Builtin.append_, run_underlying U.h, run_underlying U'.h, sizeOf, typeInfo, hi, hi1, Builtin.lenOf, hfx]
    · have hfit : o + n * sz + news.length ≤ cur.size := by
        have : (n + m) * sz ≤ c * sz := Nat.mul_le_mul_right _ hroom
        rw [hlx]; rw [Nat.add_mul] at this; omega
      have hst := run_storeCells_at P g (o + n * sz) e news 0 cur w hg (by simpa using hfit) hx.2.2.1
      simp only [Nat.add_zero] at hst
      have hrun : (Builtin.append_ #[t, t'] ty #[.slice (some ⟨g, o, none⟩) n c, .slice ax m cx]).run P w = .ok (.slice (some ⟨g, o, none⟩) (n + m) c) (w.setRow g (cur.toList.take (o + n * sz) ++ news ++ cur.toList.drop (o + n * sz + news.length)).toArray) := by
        simp [Builtin.append_, run_underlying U.h, run_underlying U'.h, sizeOf, typeInfo, hi, hi1, Builtin.lenOf, hroom, hfx, dV, hst]
      rw [kD hg] at hrun
      have hlt : g < w.heap.size := (Array.getElem?_eq_some_iff.1 hg).1
      refine ⟨_, _, _, hrun, ⟨by rw [List.length_append, hl, hlx, Nat.add_mul], hroom, hcm, .inr ⟨g, o, _, rfl, by simp [hlt]; rfl, ?_, ?_⟩⟩, ?_, fun k hk => ⟨?_, .inl hk⟩, by simp⟩
      · simp only [List.size_toArray, List.length_append, List.length_take, List.length_drop, Array.length_toList]
        omega
      · have hle : o + n * sz ≤ cur.size := by omega
        have e1 : cur.toList.take (o + n * sz) = cur.toList.take o ++ xs := by
          rw [← ht, List.take_add]
        have ho : o ≤ cur.toList.length := by simp; omega
        simp only [e1, List.append_assoc]
        rw [List.drop_append_of_le_length (by simp; omega), List.drop_of_length_le (by simp; omega), List.nil_append, ← List.append_assoc]
        have : (n + m) * sz = (xs ++ news).length := by rw [List.length_append, hl, hlx, Nat.add_mul]
        rw [this]
        exact List.take_left
      · exact ⟨rfl, rfl, rfl, by simp, fun k hk hf => by
          have : g ≠ k := fun e => hf (by simp [dH, e])
          simp [Array.getElem?_setIfInBounds_ne this], Nat.le_refl _⟩
      · simp [dH] at hk; subst hk; simpa using hlt
  · -- a new block
    have hneed : c < n + m := by omega
    have h48 : Builtin.nextslicecap (n + m) c * i.bytes ≤ 281474976710656 := growslice_fits hneed (by rw [hi2]; exact hb)
    have hold : (Builtin.firstCells sz n (.slice a n c)).run P w = .ok xs.toArray w := by
      rcases hcase with ⟨rfl, hc0⟩ | ⟨g, o, cur, rfl, hg, hsz, ht⟩
      · have hn0 : n = 0 := by omega
        subst hn0
        have hx0 : xs = [] := List.eq_nil_of_length_eq_zero (by simpa using hl)
        subst hx0
        exact run_firstCells_none w sz 0 0 c
      · exact run_firstCells_some w sz n ⟨g, o, none⟩ n c xs hl (fun j v hj => by rw [dV]; exact RowV.cells ⟨hl, hnc, hcm, .inr ⟨g, o, cur, rfl, hg, hsz, ht⟩⟩ rfl hj)
    have h63' : ¬ (9223372036854775807 < (n : Int) + m) := by simp only [maxLen] at h63; omega
    have hrun : (Builtin.append_ #[t, t'] ty #[.slice a n c, .slice ax m cx]).run P w = .ok (.slice (some ⟨w.heap.size, 0, none⟩) (n + m) (grownCap w (n + m) c e))
        (w.drew.alloc (.cells (xs.toArray ++ news.toArray ++ Builtin.zeroCells z.cells (grownCap w (n + m) c e - (n + m))) e)) := by
      have hfo : ∀ w' : World, w'.heap = w.heap → (Builtin.firstCells sz n (.slice a n c)).run P w' = .ok xs.toArray w' := fun w' hw' => by
        rcases hcase with ⟨rfl, hc0⟩ | ⟨g, o, cur, rfl, hg, hsz, ht⟩
        · have hn0 : n = 0 := by omega
          subst hn0
          have hx0 : xs = [] := List.eq_nil_of_length_eq_zero (by simpa using hl)
          subst hx0
          exact run_firstCells_none w' sz 0 0 c
        · exact run_firstCells_some w' sz n ⟨g, o, none⟩ n c xs hl (fun j v hj => by rw [dV]; exact RowV.cells ⟨hl, hnc, hcm, .inr ⟨g, o, cur, rfl, by rw [hw']; exact hg, hsz, ht⟩⟩ rfl hj)
      have hfn : ∀ w' : World, w'.heap = w.heap → (Builtin.firstCells sz m (.slice ax m cx)).run P w' = .ok news.toArray w' := fun w' hw' =>
        dW ⟨hx.1, hx.2.1, hx.2.2.1, fun b o hbo j u hj => by
          have := hx.2.2.2 b o hbo j u hj
          simpa [World.cell?, hw'] using this⟩ hp
      have q1 := hfo w.drew rfl
      have q2 := hfn w.drew rfl
      have hnb : ¬ (Builtin.nextslicecap (n + m) c * i.bytes > 2 ^ 48) := by omega
      simp [Builtin.append_, run_underlying U.h, run_underlying U'.h, sizeOf, typeInfo, zeroValue, hi, hi1, hi3, Builtin.lenOf, hroom, hnb, h63', Question.forced, q1, q2, newRow, grownCap]
      rw [← Array.append_assoc]; simp only [List.append_toArray]
    have hge := grownCap_ge w (n + m) c e
    have hcm' : grownCap w (n + m) c e ≤ maxLen := grownCap_le_maxLen w (n + m) c e h63
    refine ⟨_, _, _, hrun, ⟨by rw [List.length_append, hl, hlx, Nat.add_mul], hge, hcm', .inr ⟨w.heap.size, 0, _, rfl, heap_alloc_new w.drew _, ?_, ?_⟩⟩, ?_, fun k hk => ?_, ?_⟩
    · simp only [Array.size_append, List.size_toArray, size_zeroCells, hz, hl, hlx, Nat.zero_add, ← Nat.add_mul]
      apply Nat.le_of_eq
      congr 1
      omega
    · simp only [Array.toList_append, List.drop_zero]
      have : (n + m) * sz = (xs ++ news).length := by rw [List.length_append, hl, hlx, Nat.add_mul]
      rw [this]
      exact List.take_left
    · exact ⟨rfl, rfl, rfl, by simp, fun k hk _ => (by first | exact heap_alloc_old w.drew _ k hk | exact heap_alloc_old w.drew _ hk), Nat.le_succ _⟩
    · simp [dH] at hk; subst hk; exact ⟨by simp, .inr (Nat.le_refl _)⟩
    · constructor
      · intro h; cases h
      · rintro ⟨rfl, rfl⟩
        rcases hcase with ⟨_, hc0⟩ | ⟨g, o, cur, h, _⟩
        · omega
        · cases h
theorem cF {t t' e e' : Nat} {sz by_ : Nat} {z : Value} {a ax : Option Addr} {n c m cx : Nat} {xs news : List Value} {x y : Operand} {f : HP → List HP} [U : Und P t (.slice e)] [U' : Und P t' (.slice e')] [Z : Sz P e sz] [B : Byt P e by_] [Zr : Zer P e z]
    (hs : St w0 F w L) (hx : ev env x = some (.slice a n c)) (hy : ev env y = some (.slice ax m cx)) [r : RowAt L a n c e sz xs f] (hsrc : Src w ax m sz news) (hp : 0 < m → iF ax) (hz : z.cells.size = sz) (hb : (n + m) * by_ ≤ 140737488355328) (h63 : n + m ≤ maxLen) :
    OpR P env ⟨dst, .call ⟨.builtin .append, #[x, y], #[t, t']⟩, ty, pos, af, gd⟩ w (fun v w' => ∃ a' c', v = .slice a' (n + m) c' ∧ St w0 F w' (f (Row a' (n + m) c' e sz (xs ++ news))) ∧ Frm (dH a) w w' ∧ (a' = none ↔ a = none ∧ m = 0)) := by
  obtain ⟨a', c', w', hr, hrow, hF, hfo, hn⟩ := qE (P := P) (t := t) (t' := t') (cx := cx) hz ty (hs.row a n c) hsrc hp hb h63
  exact .val (w' := w') (v := .slice a' (n + m) c') (fun _ hm => by simp [execOp, resolve, invoke, builtin, hm.eval hx, hm.eval hy, hr])
    ⟨a', c', rfl, hs.turn (r.ctx.up _) hF hrow hfo, hF, hn⟩
theorem iU {t e sz by_ : Nat} {z : Value} {k k' : IntKind} {n : Nat} {x y : Operand} [U : Und P t (.slice e)] [Z : Sz P e sz] [B : Byt P e by_] [Zr : Zer P e z] (hs : St w0 F w L) (hx : ev env x = some (.int k n)) (hy : ev env y = some (.int k' n)) (hb : by_ * n ≤ 281474976710656) (h63 : n ≤ 9223372036854775807) :
    OpR P env ⟨dst, .makeSlice t x y, ty, pos, af, gd⟩ w (qG w0 F w L (.cells (madeCells z.cells (n * sz)) e (0, 0)) (fun b => .slice (some ⟨b, 0, none⟩) n n)) := by
  obtain ⟨i, hi, hi1, hi2, hi3⟩ := pJ (P := P) (e := e) (sz := sz) (by_ := by_) (z := z)
  have hr := run_make (P := P) w t e i z U.h hi hi3 k k' n n (by omega) (by omega) (by have e : ((by_ * n : Nat) : Int) = (by_ : Int) * n := Int.natCast_mul _ _; rw [hi2, ← e]; omega) (by omega)
  refine .val (w' := w.alloc (.cells (madeCells z.cells (n * sz)) e (0, 0))) (v := .slice (some ⟨w.heap.size, 0, none⟩) n n) (fun _ hm => ?_) (newAt hs _ _)
  simp only [execOp, hm.eval hx, hm.eval hy, Sem.run_bind, hr, Result.andThen_ok, Sem.run_pure, Int.toNat_natCast, hi1]
theorem dO {t e sz n c : Nat} {a a' : Option Addr} {x : Operand} {lo hi mx : Option Operand} {l h m : Int} {kl kh km : IntKind} [U : Und P t (.slice e)] [Z : Sz P e sz] (hx : ev env x = some (.slice a n c))
    (hlo : lo = none ∧ l = 0 ∨ ∃ y, lo = some y ∧ ev env y = some (.int kl l)) (hhi : hi = none ∧ h = n ∧ mx = none ∨ ∃ y, hi = some y ∧ ev env y = some (.int kh h)) (hmx : mx = none ∧ m = c ∨ ∃ y, mx = some y ∧ ev env y = some (.int km m))
    (h1 : 0 ≤ l) (h2 : l ≤ h) (h3 : h ≤ m) (h4 : m ≤ c) (ha : (if m = l then a else a.map (·.add (l.toNat * sz))) = a') (hS : S (.slice a' (h - l).toNat (m - l).toNat) w) :
    OpR P env ⟨dst, .slice t x lo hi mx, ty, pos, af, gd⟩ w S := by
  refine .val (fun tmps hm => ?_) hS
  have hz := eT Z.h w
  have c0 : 0 ≤ h ∧ h ≤ m := ⟨by omega, h3⟩
  have em : (m.toNat : Int) = m := Int.toNat_of_nonneg (by omega)
  have eh : (h.toNat : Int) = h := Int.toNat_of_nonneg (by omega)
  have hb : (Instr.sliceBounds true n c (lo.map (Act.eval ⟨tmps, []⟩)) (hi.map (Act.eval ⟨tmps, []⟩)) (mx.map (Act.eval ⟨tmps, []⟩))).run P w = .ok (l.toNat, h.toNat, m.toNat) w := by
    have c1 : 0 ≤ m ∧ m ≤ (c : Int) := ⟨by omega, h4⟩
    have c3 : 0 ≤ l ∧ l ≤ h := ⟨h1, h2⟩
    clear hS ha
    rcases hlo with ⟨rfl, rfl⟩ | ⟨yl, rfl, el⟩ <;> rcases hhi with ⟨rfl, rfl, rfl⟩ | ⟨yh, rfl, eh'⟩ <;> rcases hmx with ⟨hq, rfl⟩ | ⟨ym, hq, em'⟩
    all_goals first | (cases hq; done) | skip
    all_goals try subst hq
    all_goals try (have el' := hm.eval (ds := []) el)
    all_goals try (have eh'' := hm.eval (ds := []) eh')
    all_goals try (have em'' := hm.eval (ds := []) em')
    all_goals simp only [Instr.sliceBounds, Instr.sliceBound, Option.map_none, Option.map_some, Sem.run_bind, Sem.run_pure, Result.andThen_ok, asIntOf, Sem.run_ite, Int.toNat_natCast, Option.isSome_none, Option.isSome_some, Int.toNat_zero, *]
    all_goals simp only [if_true, Result.andThen_ok, and_self, *]
  have e1 : (h.toNat - l.toNat : Nat) = (h - l).toNat := by omega
  have e2 : (m.toNat - l.toNat : Nat) = (m - l).toNat := by omega
  have e3 : (m.toNat = l.toNat) ↔ m = l := by omega
  simp only [execOp, hm.eval hx, Instr.sliceAt, Sem.run_bind, run_underlying U.h, Result.andThen_ok, Instr.slice, hb, hz, Sem.run_pure]
  simp only [e1, e2, e3, ha]
end
end Go.Eng
end
section
namespace Go.Eng
open Go.RowKit
structure Ty (α : Type) where
  sz : Nat
  rep : (Nat → Prop) → World → List Value → α → Prop
  len : ∀ {R w cs x}, rep R w cs x → cs.length = sz
  one : ∀ {R w cs x}, rep R w cs x → ∀ u ∈ cs, u.oneCell' = true
  loc : ∀ {R w w' cs x}, rep R w cs x → (∀ k, R k → k < w.heap.size → w'.heap[k]? = w.heap[k]?) → rep R w' cs x
  weak : ∀ {R R' w cs x}, rep R w cs x → (∀ k, R k → R' k) → rep R' w cs x
def inK : IntKind → Int → Prop
  | .i64, x => -9223372036854775808 ≤ x ∧ x ≤ 9223372036854775807
  | .u64, x => 0 ≤ x ∧ x ≤ 18446744073709551615
  | k, x => k.min ≤ x ∧ x ≤ k.max
def tInt (k : IntKind) : Ty Int where
  sz := 1
  rep := fun _ _ cs x => cs = [.int k x] ∧ inK k x
  len := fun ⟨h, _⟩ => by rw [h]; rfl
  one := fun ⟨h, _⟩ => by rw [h]; simp [Value.oneCell']
  loc := fun h _ => h
  weak := fun h _ => h
def tBool : Ty Bool where
  sz := 1
  rep := fun _ _ cs x => cs = [.bool x]
  len := fun h => by rw [h]; rfl
  one := fun h => by rw [h]; simp [Value.oneCell']
  loc := fun h _ => h
  weak := fun h _ => h
def tPair {α β : Type} (d : Ty α) (e : Ty β) : Ty (α × β) where
  sz := d.sz + e.sz
  rep := fun R w cs x => ∃ c1 c2, cs = c1 ++ c2 ∧ d.rep R w c1 x.1 ∧ e.rep R w c2 x.2
  len := fun ⟨c1, c2, h, h1, h2⟩ => by rw [h, List.length_append, d.len h1, e.len h2]
  one := fun ⟨c1, c2, h, h1, h2⟩ u hu => by
    rw [h] at hu
    rcases List.mem_append.1 hu with hu | hu
    · exact d.one h1 u hu
    · exact e.one h2 u hu
  loc := fun ⟨c1, c2, h, h1, h2⟩ hk => ⟨c1, c2, h, d.loc h1 hk, e.loc h2 hk⟩
  weak := fun ⟨c1, c2, h, h1, h2⟩ hk => ⟨c1, c2, h, d.weak h1 hk, e.weak h2 hk⟩
structure SlR {α : Type} (d : Ty α) (R : Nat → Prop) (w : World) (a : Option Addr) (n : Nat) (xs : List α) : Prop where
  len : xs.length = n
  nil : a = none → n = 0
  plain : 0 < n → iF a
  reg : ∀ b o, a = some ⟨b, o, none⟩ → 0 < n → R b
  el : ∀ i x, xs[i]? = some x → ∃ es, d.rep R w es x ∧ ∀ b o, a = some ⟨b, o, none⟩ → ∀ j u, es[j]? = some u → w.cell? ⟨b, o + i * d.sz + j, none⟩ = some u
def tSl {α : Type} (d : Ty α) : Ty (List α) where
  sz := 1
  rep := fun R w cs xs => ∃ a n c, cs = [.slice a n c] ∧ n ≤ c ∧ c ≤ maxLen ∧ (a = none → c = 0) ∧ SlR d R w a n xs
  len := fun ⟨_, _, _, h, _⟩ => by rw [h]; rfl
  one := fun ⟨_, _, _, h, _⟩ => by rw [h]; simp [Value.oneCell']
  loc := fun {R w w' cs xs} ⟨a, n, c, h, h1, h2, h3, s⟩ hk => ⟨a, n, c, h, h1, h2, h3, ⟨s.len, s.nil, s.plain, s.reg, fun i x hx => by
    obtain ⟨es, hr, hc⟩ := s.el i x hx
    refine ⟨es, d.loc hr hk, fun b o ha j u hu => ?_⟩
    have hcell := hc b o ha j u hu
    have hlt := World.block_lt_of_cell? w _ hcell
    have hn : 0 < n := by have := s.len; have := (List.getElem?_eq_some_iff.1 hx).1; omega
    exact (World.cell?_of_block (w := w) (w' := w') (hk b (s.reg b o ha hn) hlt)).trans hcell⟩⟩
  weak := fun ⟨a, n, c, h, h1, h2, h3, s⟩ hk => ⟨a, n, c, h, h1, h2, h3, ⟨s.len, s.nil, s.plain, fun b o ha hn => hk b (s.reg b o ha hn), fun i x hx => by
    obtain ⟨es, hr, hc⟩ := s.el i x hx
    exact ⟨es, d.weak hr hk, hc⟩⟩⟩
def All : Nat → Prop := fun _ => True
section
variable {α : Type} {d : Ty α} {R : Nat → Prop} {w w0 w' : World} {F : Nat → Prop} {L : List HP} {a : Option Addr} {n c : Nat} {xs : List α} {cs : List Value} {x : α}
theorem SlR.loc' (s : SlR d R w a n xs) (hk : ∀ k, R k → k < w.heap.size → w'.heap[k]? = w.heap[k]?) : SlR d R w' a n xs :=
  ⟨s.len, s.nil, s.plain, s.reg, fun i x hx => by
    obtain ⟨es, hr, hc⟩ := s.el i x hx
    refine ⟨es, d.loc hr hk, fun b o ha j u hu => ?_⟩
    have hcell := hc b o ha j u hu
    have hlt := World.block_lt_of_cell? w _ hcell
    have hn : 0 < n := by have := s.len; have := (List.getElem?_eq_some_iff.1 hx).1; omega
    exact (World.cell?_of_block (w := w) (w' := w') (hk b (s.reg b o ha hn) hlt)).trans hcell⟩
theorem SlR.st (s : SlR d R w0 a n xs) (t : St w0 NoF w L) : SlR d R w a n xs := s.loc' (fun k _ hk => t.frm.old k hk id)
theorem SlR.addr (s : SlR d R w a n xs) (hn : 0 < n) : ∃ b o, a = some ⟨b, o, none⟩ := by
  cases a with
  | none => have := s.nil rfl; omega
  | some ad =>
    obtain ⟨b, o, sp⟩ := ad
    have : sp = none := s.plain hn _ rfl
    subst this
    exact ⟨b, o, rfl⟩
theorem SlR.int {k : IntKind} {xs : List Int} (s : SlR (tInt k) R w a n xs) {i : Nat} {v : Int} (hi : xs[i]? = some v) {b o : Nat} (ha : a = some ⟨b, o, none⟩) : w.cell? ⟨b, o + i, none⟩ = some (.int k v) ∧ inK k v := by
  obtain ⟨es, ⟨rfl, hk⟩, hc⟩ := s.el i v hi
  have := hc b o ha 0 _ rfl
  exact ⟨by simpa [tInt] using this, hk⟩
theorem rep_nil (d : Ty α) (R : Nat → Prop) (w : World) : (tSl d).rep R w [.slice none 0 0] [] :=
  ⟨none, 0, 0, rfl, Nat.le_refl _, by simp [maxLen], fun _ => rfl, ⟨rfl, fun _ => rfl, fun h0 => absurd h0 (Nat.lt_irrefl 0), fun _ _ h => (by cases h), fun i x hx => by simp at hx⟩⟩
theorem RowV.slr {k : IntKind} {xs : List Int} {e : Nat} (h : RowV w a n c e 1 (xs.map (.int k))) (hk : ∀ v ∈ xs, inK k v) : SlR (tInt k) (dH a) w a n xs := by
  have hl := h.1
  refine ⟨by simpa using hl, fun ha => ?_, fun _ ad ha => ?_, fun b o ha _ => by simp [dH, ha], fun i v hv => ⟨[.int k v], ⟨rfl, hk v (List.mem_of_getElem? hv)⟩, fun b o ha j u hj => ?_⟩⟩
  · rcases h.2.2.2 with ⟨_, hc⟩ | ⟨g, o, cur, hg, _⟩
    · have := h.2.1; omega
    · rw [ha] at hg; cases hg
  · rcases h.2.2.2 with ⟨hn, _⟩ | ⟨g, o, cur, hg, _⟩
    · rw [ha] at hn; cases hn
    · rw [ha] at hg; cases hg; rfl
  · cases j with
    | zero =>
      simp at hj; subst hj
      have := RowV.cells h ha (j := i) (v := .int k v) (by rw [List.getElem?_map, hv]; rfl)
      simpa [tInt] using this
    | succ j => simp at hj
theorem RowV.cap {e : Nat} (h : RowV w a n c e 1 cs) : n ≤ c ∧ c ≤ maxLen ∧ (a = none → c = 0) := by
  refine ⟨h.2.1, h.2.2.1, fun ha => ?_⟩
  rcases h.2.2.2 with ⟨_, hc⟩ | ⟨g, o, cur, hg, _⟩
  · exact hc
  · rw [ha] at hg; cases hg
end
section
variable {P : Program} {env : Env} {w : World} {dst : Option Tmp} {ty : TypeId} {pos : String} {af : Array Edge} {gd : Option (Nat × Bool)} {S : Value → World → Prop}
theorem bO {T b o i n : Nat} {k : IntKind} {v : Int} {xs : List Int} {R : Nat → Prop} {x : Operand} [A : Scal P T] (s : SlR (tInt k) R w (some ⟨b, o, none⟩) n xs) (hx : ev env x = some (.pointer (some ⟨b, o + i * 1, none⟩))) (hv : xs[i]? = some v) (hS : S (.int k v) w) :
    OpR P env ⟨dst, .load T x, ty, pos, af, gd⟩ w S := bL (by have := (s.int hv rfl).1; rwa [Nat.mul_one]) hx hS
end
end Go.Eng
end
section
namespace Go.Eng
open Go.RowKit
class CellsIs (v : Value) (vs : outParam (List Value)) : Prop where h : v.cells = vs.toArray
instance {l : List Value} : CellsIs (.agg l.toArray) l := ⟨rfl⟩
instance {k : IntKind} {x : Int} : CellsIs (.int k x) [.int k x] := ⟨rfl⟩
instance {b : Bool} : CellsIs (.bool b) [.bool b] := ⟨rfl⟩
instance {s : ByteArray} : CellsIs (.string s) [.string s] := ⟨rfl⟩
instance {a : Option Addr} : CellsIs (.pointer a) [.pointer a] := ⟨rfl⟩
instance {a : Option Addr} {n c : Nat} : CellsIs (.slice a n c) [.slice a n c] := ⟨rfl⟩
instance {m : Option Nat} : CellsIs (.map m) [.map m] := ⟨rfl⟩
instance {f : Fn} {a b : Array Value} : CellsIs (.func f a b) [.func f a b] := ⟨rfl⟩
instance : CellsIs .nilFunc [.nilFunc] := ⟨rfl⟩
instance : CellsIs .nilIface [.nilIface] := ⟨rfl⟩
instance {t : TypeId} {v : Value} : CellsIs (.iface t v) [.iface t v] := ⟨rfl⟩
class SpliceIs (l : List Value) (off : Nat) (vs : List Value) (out : outParam (List Value)) : Prop where
  h : bR l off vs = out
  le : off + vs.length ≤ l.length
instance {l : List Value} : SpliceIs l 0 [] l := ⟨by simp [bR], by simp⟩
instance {l vs out : List Value} {x v : Value} [s : SpliceIs l 0 vs out] : SpliceIs (x :: l) 0 (v :: vs) (v :: out) := ⟨by have := s.h; simp [bR] at this ⊢; exact this, by have := s.le; simp at this ⊢; omega⟩
instance {l vs out : List Value} {x : Value} {n : Nat} [s : SpliceIs l n vs out] : SpliceIs (x :: l) (n + 1) vs (x :: out) := ⟨by have := s.h; simp [bR, Nat.add_right_comm] at this ⊢; exact this, by have := s.le; simp at this ⊢; omega⟩
class SubIs (l : List Value) (off s : Nat) (out : outParam (List Value)) : Prop where
  h : ∀ j v, out[j]? = some v → l[off + j]? = some v
  len : out.length = s
instance {l : List Value} : SubIs l 0 0 [] := ⟨by simp, rfl⟩
instance {l out : List Value} {x : Value} {s : Nat} [u : SubIs l 0 s out] : SubIs (x :: l) 0 (s + 1) (x :: out) := ⟨fun j v hj => by
  cases j with
  | zero => simpa using hj
  | succ j => have := u.h j v (by simpa using hj); simpa using this, by simp [u.len]⟩
instance {l out : List Value} {x : Value} {n s : Nat} [u : SubIs l n s out] : SubIs (x :: l) (n + 1) s out := ⟨fun j v hj => by have := u.h j v hj; rw [show n + 1 + j = (n + j) + 1 by omega]; simpa using this, u.len⟩
class OneCells (vs : List Value) : Prop where h : ∀ u ∈ vs, u.oneCell' = true
instance : OneCells [] := ⟨by simp⟩
class OneCell (v : Value) : Prop where h : v.oneCell' = true
instance {v : Value} {vs : List Value} [a : OneCell v] [b : OneCells vs] : OneCells (v :: vs) := ⟨fun u hu => by rcases List.mem_cons.1 hu with rfl | hu; exact a.h; exact b.h u hu⟩
instance {k : IntKind} {x : Int} : OneCell (.int k x) := ⟨rfl⟩
instance {b : Bool} : OneCell (.bool b) := ⟨rfl⟩
instance {s : ByteArray} : OneCell (.string s) := ⟨rfl⟩
instance {a : Option Addr} : OneCell (.pointer a) := ⟨rfl⟩
instance {a : Option Addr} {n c : Nat} : OneCell (.slice a n c) := ⟨rfl⟩
instance {m : Option Nat} : OneCell (.map m) := ⟨rfl⟩
instance {f : Fn} {a b : Array Value} : OneCell (.func f a b) := ⟨rfl⟩
instance : OneCell .nilFunc := ⟨rfl⟩
instance : OneCell .nilIface := ⟨rfl⟩
instance {t : TypeId} {v : Value} : OneCell (.iface t v) := ⟨rfl⟩
section
variable {P : Program} {env : Env} {w0 w w' : World} {F : Nat → Prop} {L L' : List HP} {dst : Option Tmp} {ty : TypeId} {pos : String} {af : Array Edge} {gd : Option (Nat × Bool)} {S : Value → World → Prop}
theorem aJ {T : Nat} {z : Value} {vs : List Value} [Z : Zer P T z] [C : CellsIs z vs] (hs : St w0 F w L) : OpR P env ⟨dst, .alloc T, ty, pos, af, gd⟩ w (qG w0 F w L (.cells vs.toArray T (0, 0)) ptr) := by
  rw [← C.h]; exact aCc hs
theorem bC {T : Nat} {x : Operand} {v : Value} {vs : List Value} (hs : St w0 F w L) (hx : ev env x = some v) [C : CellsIs v vs] : OpR P env ⟨dst, .box T x, ty, pos, af, gd⟩ w (qG w0 F w L (.cells vs.toArray T (0, 0)) ptr) := by
  rw [← C.h]; exact OpR_box hs hx
theorem uX {T b off e : Nat} {x : Operand} {v : Value} {cs : List Value} {fz : Nat × Nat} [A : Scal P T] (hs : St w0 F w L) (hx : ev env x = some (.pointer (some ⟨b, off, none⟩))) [m : BlkAt L b (.cells cs.toArray e fz)] (hv : cs[off]? = some v)
    (hS : S v w) : OpR P env ⟨dst, .load T x, ty, pos, af, gd⟩ w S := bL (cA hs.blk (by simpa using hv)) hx hS
theorem sX {T b off s e : Nat} {x : Operand} {vs cs : List Value} {fz : Nat × Nat} [A : Agg P T s] (hs : St w0 F w L) (hx : ev env x = some (.pointer (some ⟨b, off, none⟩))) [m : BlkAt L b (.cells cs.toArray e fz)] [u : SubIs cs off s vs]
    (hS : S (.agg vs.toArray) w) : OpR P env ⟨dst, .load T x, ty, pos, af, gd⟩ w S :=
  fI u.len (fun j v hj => cA hs.blk (by simpa using u.h j v hj)) hx hS
theorem aK {T b off e s : Nat} {x y : Operand} {v : Value} {vs cs cs' : List Value} (hs : St w0 F w L) (hx : ev env x = some (.pointer (some ⟨b, off, none⟩))) (hy : ev env y = some v) [C : CellsIs v vs] [O : OneCells vs] [Z : Sz P T s] (hl : vs.length = s)
    [m : BlkAt L b (.cells cs.toArray e (0, 0))] [sp : SpliceIs cs off vs cs'] [u : BlkUp L b (.cells cs.toArray e (0, 0)) (.cells cs'.toArray e (0, 0)) L'] :
    OpR P env ⟨dst, .store T x y, ty, pos, af, gd⟩ w (fun _ w' => St w0 F w' L' ∧ Frm (fun k => k = b) w w') := by
  have hv : v.cells.toList = vs := by rw [C.h]
  have Z' : Sz P T v.cells.toList.length := ⟨by rw [hv, hl]; exact Z.h⟩
  refine aB6 (cs := cs.toArray) (cs' := cs') hs hx hy (by rw [hv]; exact sp.h) (by rw [hv]; simpa using sp.le) (by rw [hv]; exact List.all_eq_true.2 O.h)
theorem ResOk.agg' {t T b s e : Nat} {fz : Nat × Nat} {us : List Value} {l : List ResultVar} {vs : List Value} [A : Agg P T s] (hs : St w0 F w L) (h : Env.get env t = some (.pointer (some ⟨b, 0, none⟩))) [m : BlkAt L b (.cells us.toArray e fz)] (hl : us.length = s) (r : ResOk P env w l vs) :
    ResOk P env w (.cell t T :: l) (.agg us.toArray :: vs) := ResOk.agg hs h (by simp) hl r
theorem ResOk.scal' {t T b e : Nat} {fz : Nat × Nat} {v : Value} {us : List Value} {l : List ResultVar} {vs : List Value} [A : Scal P T] (hs : St w0 F w L) (h : Env.get env t = some (.pointer (some ⟨b, 0, none⟩))) [m : BlkAt L b (.cells us.toArray e fz)] (hv : us[0]? = some v) (r : ResOk P env w l vs) :
    ResOk P env w (.cell t T :: l) (v :: vs) := ResOk.scal hs h (by simpa using hv) r
theorem cR {T i b off s : Nat} {g : Bool} {x : Operand} {l : List (Nat × Nat × Bool)} [Fl : Flds P T l] (hx : ev env x = some (.pointer (some ⟨b, 0, none⟩))) (hi : l[i]? = some (off, s + 1, g))
    (hS : S (.pointer (some ⟨b, off, none⟩)) w) : OpR P env ⟨dst, .fieldAddr T x i, ty, pos, af, gd⟩ w S := cS hx hi (by rwa [Nat.zero_add])
theorem mU {T e sz b o o' n : Nat} {k : IntKind} {i : Int} {x ix : Operand} [U : Und P T (.array n e)] [Z : Sz P e sz] (hx : ev env x = some (.pointer (some ⟨b, o, none⟩))) (hix : ev env ix = some (.int k i)) (h0 : 0 ≤ i) (h1 : i < n) (ho : o + i.toNat * sz = o')
    (hS : S (.pointer (some ⟨b, o', none⟩)) w) : OpR P env ⟨dst, .indexAddr T x ix, ty, pos, af, gd⟩ w S := nN hx hix h0 h1 (by rw [ho]; exact hS)
theorem OpR_addn {T T' : Nat} {a b c : Int} {x y : Operand} (hx : ev env x = some (.int .i64 a)) (hy : ev env y = some (.int .i64 b)) (hb : -9223372036854775808 ≤ a + b ∧ a + b ≤ 9223372036854775807) (hc : a + b = c) (hS : S (.int .i64 c) w) :
    OpR P env ⟨dst, .binOp .add T x y T', ty, pos, af, gd⟩ w S := OpR_add hx hy hb (by rw [hc]; exact hS)
def kQ (env : Env) : List (Nat × Operand) → Option (List (Nat × Value))
  | [] => some [] | (i, x) :: r => match ev env x, kQ env r with | some v, some vs => some ((i, v) :: vs) | _, _ => none
theorem lP {tmps : Array Value} (hm : Match tmps env) : ∀ {l : List (Nat × Operand)} {vs : List (Nat × Value)}, kQ env l = some vs → l.map (fun (i, x) => (i, Act.eval ⟨tmps, []⟩ x)) = vs := by
  intro l
  induction l with
  | nil => intro vs h; simp [kQ] at h; subst h; simp
  | cons x r ih =>
    obtain ⟨i, x⟩ := x
    intro vs h
    simp only [kQ] at h
    cases hx : ev env x with
    | none => simp [hx] at h
    | some v =>
      cases hr : kQ env r with
      | none => simp [hx, hr] at h
      | some us => simp [hx, hr] at h; subst h; simp [hm.eval hx, ih hr]
def bld (ps : Nat → Option (Nat × Nat)) : List Value → List (Nat × Value) → Option (List Value)
  | cells, [] => some cells
  | cells, (i, v) :: r => match ps i with
    | none => none
    | some (off, size) => if v.cells.toList.length = size ∧ off + size ≤ cells.length then bld ps (bR cells off v.cells.toList) r else none
theorem fold_set (off : Nat) : ∀ (vs : List Value) (k : Nat) (cells : Array Value), off + k + vs.length ≤ cells.size → ((vs.zipIdx k).foldl (fun (cs : Array Value) (x : Value × Nat) => cs.setIfInBounds (off + x.2) x.1) cells).toList = bR cells.toList (off + k) vs := by
  intro vs
  induction vs with
  | nil => intro k cells _; simp [bR]
  | cons v r ih =>
    intro k cells h
    simp only [List.length_cons] at h
    simp only [List.zipIdx_cons, List.foldl_cons]
    rw [ih (k + 1) _ (by simp; omega)]
    simp only [bR, Array.toList_setIfInBounds, List.length_cons]
    apply List.ext_getElem?
    intro i
    have hlen : (cells.toList.set (off + k) v).length = cells.size := by simp
    by_cases h1 : i < off + k
    · rw [List.getElem?_append_left (by simp; omega), List.getElem?_append_left (by simp; omega), List.getElem?_append_left (by simp; omega), List.getElem?_append_left (by simp; omega)]
      simp [show i < off + (k + 1) by omega, h1, show off + k ≠ i by omega]
    · by_cases h2 : i = off + k
      · subst h2
        rw [List.getElem?_append_left (by simp; omega), List.getElem?_append_left (by simp; omega), List.getElem?_append_left (by simp; omega), List.getElem?_append_right (by simp; omega)]
        simp [show off + k < off + (k + 1) by omega, show off + k < cells.size by omega, show min (off + k) cells.size = off + k by omega]
      · by_cases h3 : i < off + k + 1 + r.length
        · rw [List.getElem?_append_left (by simp; omega), List.getElem?_append_right (by simp; omega), List.getElem?_append_left (by simp; omega), List.getElem?_append_right (by simp; omega)]
          simp only [List.length_take, hlen, Array.length_toList]
          rw [show min (off + (k + 1)) cells.size = off + (k + 1) by omega, show min (off + k) cells.size = off + k by omega, show i - (off + k) = (i - (off + (k + 1))) + 1 by omega]
          simp
        · rw [List.getElem?_append_right (by simp; omega), List.getElem?_append_right (by simp; omega)]
          simp only [List.length_append, List.length_take, hlen, Array.length_toList, List.length_cons, List.getElem?_drop, List.getElem?_set]
          rw [if_neg (by omega)]
          congr 1
          omega
theorem oJ (place : Nat → Option (Nat × Nat)) : ∀ (parts : List (Nat × Value)) (cells : Array Value), Instr.fill place cells parts = (bld place cells.toList parts).map List.toArray := by
  intro parts
  induction parts with
  | nil => intro cells; simp [Instr.fill, bld]
  | cons x r ih =>
    obtain ⟨i, v⟩ := x
    intro cells
    simp only [Instr.fill, bld]
    cases hp : place i with
    | none => rfl
    | some q =>
      obtain ⟨off, size⟩ := q
      simp only
      by_cases hc : v.cells.size = size ∧ off + size ≤ cells.size
      · have h1 : ¬ (v.cells.size ≠ size || off + v.cells.size > cells.size) = true := by simp; omega
        rw [if_neg h1, if_pos (by simpa using hc), ih]
        congr 2
        have := fold_set off v.cells.toList 0 cells (by simp; omega)
        simp only [Nat.add_zero] at this
        rw [← this]
        congr 1
        rw [← Array.foldl_toList]
        congr 1
        simp [Array.toList_zipIdx]
      · have h1 : (v.cells.size ≠ size || off + v.cells.size > cells.size) = true := by
          simp only [Bool.or_eq_true, decide_eq_true_eq, ne_eq]
          by_cases h : v.cells.size = size
          · right; have := fun h2 => hc ⟨h, h2⟩; omega
          · left; exact h
        rw [if_pos h1, if_neg (by simpa using hc)]
        rfl
def mG (l : List (Nat × Nat × Bool)) (i : Nat) : Option (Nat × Nat) := (l[i]?).map fun x => (x.1, x.2.1)
theorem aCa {T : Nat} {l : List (Nat × Nat × Bool)} {z : Value} {zs : List Value} {parts : List (Nat × Operand)} {vs : List (Nat × Value)} {cs : List Value} [Fl : Flds P T l] [Z : Zer P T z] [C : CellsIs z zs] (hp : kQ env parts = some vs) (hb : bld (mG l) zs vs = some cs)
    (hS : S (.agg cs.toArray) w) : OpR P env ⟨dst, .build T parts.toArray, ty, pos, af, gd⟩ w S :=
  .val (fun tmps hm => by
    have hl := Fl.h
    unfold fieldsOf at hl
    cases hu : P.underlying T with
    | none => simp [hu] at hl
    | some d =>
      cases d <;> simp only [hu] at hl <;> try cases hl
      rename_i fs
      obtain ⟨fl⟩ := fs
      have hplaces : ∀ (L : List Field) (l : List (Nat × Nat × Bool)), iX P L = some l → (L.mapM (fun f => (do pure (f.offset, ← sizeOf f.type) : Sem (Nat × Nat)))).run P w = .ok (l.map fun x => (x.1, x.2.1)) w := by
        intro L
        induction L with
        | nil => intro l h; simp [iX] at h; subst h; rfl
        | cons f r ih =>
          intro l h
          simp only [iX] at h
          cases h1 : qX P f with
          | none => simp [h1] at h
          | some y =>
            cases h2 : iX P r with
            | none => simp [h1, h2] at h
            | some l' =>
              simp [h1, h2] at h
              subst h
              have hs : (sizeOf f.type).run P w = .ok y.2.1 w ∧ y.1 = f.offset := by
                unfold qX at h1
                cases hi : P.info? f.type with
                | none => simp [hi] at h1
                | some inf =>
                  cases hd : P.underlying f.type with
                  | none => simp [hi, hd] at h1
                  | some d => simp [hi, hd] at h1; subst h1; exact ⟨by simp [sizeOf, typeInfo, hi], rfl⟩
              simp only [List.mapM_cons, Sem.run_bind, hs.1, Result.andThen_ok, Sem.run_pure, ih l' h2, List.map_cons, hs.2]
      have hpl := hplaces _ _ hl
      have hparts : (parts.toArray.map fun (x : Nat × Operand) => (x.1, Act.eval ⟨tmps, []⟩ x.2)).toList = vs := by
        rw [Array.toList_map, List.toList_toArray]; exact lP hm hp
      have hplace : (fun i => (l.map fun x => (x.1, x.2.1)).toArray[i]?) = mG l := by funext i; simp [mG]
      simp only [execOp, Instr.build, Sem.run_bind, oP Z.h, Result.andThen_ok, run_underlying hu]
      simp only [List.mapM_toArray, Sem.run_map, hpl, Result.andThen_ok]
      rw [hplace, hparts, oJ, C.h, List.toList_toArray, hb]
      rfl) hS
theorem tA {T e n sz : Nat} {z : Value} {zs : List Value} {parts : List (Nat × Operand)} {vs : List (Nat × Value)} {cs : List Value} [U : Und P T (.array n e)] [Z : Zer P T z] [C : CellsIs z zs] [Q : Sz P e sz] (hp : kQ env parts = some vs) (hb : bld (fun i => some (i * sz, sz)) zs vs = some cs)
    (hS : S (.agg cs.toArray) w) : OpR P env ⟨dst, .build T parts.toArray, ty, pos, af, gd⟩ w S :=
  .val (fun tmps hm => by
    have hparts : (parts.toArray.map fun (x : Nat × Operand) => (x.1, Act.eval ⟨tmps, []⟩ x.2)).toList = vs := by
      rw [Array.toList_map, List.toList_toArray]; exact lP hm hp
    simp only [execOp, Instr.build, Sem.run_bind, oP Z.h, Result.andThen_ok, run_underlying U.h, eT Q.h]
    rw [hparts, oJ, C.h, List.toList_toArray, hb]
    rfl) hS
theorem bF {T e n sz : Nat} {z : Value} {parts : List (Nat × Operand)} {vs : List (Nat × Value)} {cs : List Value} [U : Und P T (.slice e)] [Z : Zer P e z] [Q : Sz P e sz] (hs : St w0 F w L) (hp : kQ env parts = some vs) (hsz : n * sz ≤ 16777216)
    (hb : bld (fun i => some (i * sz, sz)) (if n * sz = 0 then [] else (List.range (n * sz)).map fun i => z.cells[i % z.cells.size]!) vs = some cs) :
    OpR P env ⟨dst, .buildSlice T n parts.toArray, ty, pos, af, gd⟩ w (qG w0 F w L (.cells cs.toArray e (0, 0)) (fun b => .slice (some ⟨b, 0, none⟩) n n)) := by
  refine .val (w' := w.alloc (.cells cs.toArray e (0, 0))) (v := .slice (some ⟨w.heap.size, 0, none⟩) n n) (fun tmps hm => ?_) (newAt hs _ _)
  have hparts : (parts.toArray.map fun (x : Nat × Operand) => (x.1, Act.eval ⟨tmps, []⟩ x.2)).toList = vs := by
    rw [Array.toList_map, List.toList_toArray]; exact lP hm hp
  have h24 : ¬ (n * sz > 2 ^ 24) := by omega
  have h24' : ¬ ((0 : Nat) > 2 ^ 24) := by omega
  by_cases h0 : n * sz = 0
  · simp only [h0, if_true] at hb
    simp only [execOp, Instr.buildSlice, Sem.run_bind, run_underlying U.h, eT Q.h, Result.andThen_ok, h0, if_true, if_neg h24', Sem.run_pure]
    rw [hparts, oJ]
    simp only [Array.toList_map, Array.toList_range, List.range_zero, List.map_nil, hb, Option.map_some, newRow, Sem.run_bind, run_newObj, Result.andThen_ok, Sem.run_pure]
    rfl
  · simp only [h0, if_false] at hb
    simp only [execOp, Instr.buildSlice, Sem.run_bind, run_underlying U.h, eT Q.h, Result.andThen_ok, if_neg h24, if_neg h0, Sem.run_pure, oP Z.h]
    rw [hparts, oJ]
    simp only [Array.toList_map, Array.toList_range, hb, Option.map_some, newRow, Sem.run_bind, run_newObj, Result.andThen_ok, Sem.run_pure]
    rfl
end
end Go.Eng
end
section
namespace Go.Eng
open Go.RowKit
def Star (A : List HP) : HP := ⟨fun k => ∃ c ∈ A, c.foot k, fun w => (∀ c ∈ A, c.holds w) ∧ A.Pairwise (fun c d : HP => ∀ k : Nat, c.foot k → ¬ d.foot k),
  fun w w' h hw => ⟨fun c hc => c.loc w w' (fun k hk => h k ⟨c, hc, hk⟩) (hw.1 c hc), hw.2⟩⟩
def Held (w : World) (A : List HP) : Prop := (Star A).holds w ∧ ∀ k, (Star A).foot k → k < w.heap.size
structure Turn (w : World) (A : List HP) (w' : World) (A' : List HP) : Prop where
  frm : Frm (Star A).foot w w'
  holds : (Star A').holds w'
  foot : ∀ k, (Star A').foot k → k < w'.heap.size ∧ ((Star A).foot k ∨ w.heap.size ≤ k)
section
variable {w0 w w' : World} {F : Nat → Prop} {A A' L M : List HP}
theorem St.held (h : St w0 F w (A ++ L)) : Held w A :=
  ⟨⟨fun c hc => h.all c (List.mem_append_left _ hc), (List.pairwise_append.1 h.sep).1⟩, fun k ⟨c, hc, hk⟩ => (h.foot c (List.mem_append_left _ hc) k hk).1⟩
theorem Held.st (h : Held w A) : St w (Star A).foot w A := St.initF w _ (fun c hc => ⟨h.1.1 c hc, fun k hk => ⟨h.2 k ⟨c, hc, hk⟩, c, hc, hk⟩⟩) h.1.2
theorem St.turned (h : St w (Star A).foot w' (A' ++ M)) : Turn w A w' A' :=
  ⟨h.frm, ⟨fun c hc => h.all c (List.mem_append_left _ hc), (List.pairwise_append.1 h.sep).1⟩, fun k ⟨c, hc, hk⟩ => h.foot c (List.mem_append_left _ hc) k hk⟩
theorem Frm.trans {w1 w2 w3 : World} {F G : Nat → Prop} (h : Frm F w1 w2) (g : Frm G w2 w3) (hg : ∀ k, k < w1.heap.size → G k → F k) : Frm F w1 w3 :=
  ⟨g.os.trans h.os, g.tape.trans h.tape, g.output.trans h.output, Nat.le_trans h.size g.size, fun k hk hf => (g.old k (Nat.lt_of_lt_of_le hk h.size) (fun hg' => hf (hg k hk hg'))).trans (h.old k hk hf), Nat.le_trans h.drawn g.drawn⟩
theorem St.take (h : St w0 F w (A ++ L)) (t : Turn w A w' A') : St w0 F w' (A' ++ L) := by
  have hA : ∀ k, (Star A).foot k → k < w.heap.size ∧ (F k ∨ w0.heap.size ≤ k) := fun k ⟨c, hc, hk⟩ => h.foot c (List.mem_append_left _ hc) k hk
  have hdis : ∀ d ∈ L, ∀ k, d.foot k → ¬ (Star A).foot k := fun d hd k hk ⟨c, hc, hck⟩ => (List.pairwise_append.1 h.sep).2.2 c hc d hd k hck hk
  have hle := h.frm.size
  have hle' := t.frm.size
  refine ⟨h.frm.trans t.frm (fun k hk hk' => ?_), fun c hc => ?_, fun c hc k hk => ?_, List.pairwise_append.2 ⟨t.holds.2, (List.pairwise_append.1 h.sep).2.1, fun a ha b hb k hka hkb => ?_⟩⟩
  · rcases (hA k hk').2 with h1 | h1
    · exact h1
    · omega
  · rcases List.mem_append.1 hc with hc | hc
    · exact t.holds.1 c hc
    · exact c.loc w w' (fun k hk => t.frm.old k (h.foot c (List.mem_append_right _ hc) k hk).1 (hdis c hc k hk)) (h.all c (List.mem_append_right _ hc))
  · rcases List.mem_append.1 hc with hc | hc
    · have := t.foot k ⟨c, hc, hk⟩
      refine ⟨this.1, ?_⟩
      rcases this.2 with h1 | h1
      · exact (hA k h1).2
      · exact .inr (by omega)
    · have := h.foot c (List.mem_append_right _ hc) k hk
      exact ⟨by omega, this.2⟩
  · rcases (t.foot k ⟨a, ha, hka⟩).2 with h1 | h1
    · exact hdis b hb k hkb h1
    · have := (h.foot b (List.mem_append_right _ hb) k hkb).1; omega
theorem Turn.ext {w'' : World} (t : Turn w A w' A') (e : Ext w' w'') : Turn w A w'' A' :=
  ⟨t.frm.trans (e.frm NoF) (fun _ _ h => h.elim), (Star A').loc w' w'' (fun k hk => e.block k (t.foot k hk).1) t.holds, fun k hk => ⟨Nat.lt_of_lt_of_le (t.foot k hk).1 e.size, (t.foot k hk).2⟩⟩
theorem Turn.refl (h : Held w A) : Turn w A w A := ⟨⟨rfl, rfl, rfl, Nat.le_refl _, fun _ _ _ => rfl, Nat.le_refl _⟩, h.1, fun k hk => ⟨h.2 k hk, .inl hk⟩⟩
end
def rec_ (st : LoopState) (pe : Option Code) (f : FuncId) (tm : Array Value) (ps : Array Tmp) (qas body : Code) (D : Nat) : Obj := .loop ⟨st, pe, f, tm, ps, qas, body, D⟩
def sU (P : Program) (y : Value) (N : Nat) (X : Nat → List Value → List HP → Prop) (C : Nat → List HP → Prop) (Cs : List HP → Prop) (wS : World) (c0 : List HP) : Prop :=
  ∀ i w vals cx c, i < N → C i c → X i vals cx → Held w (c ++ cx) → Frm (Star c0).foot wS w →
    RetV P y vals.toArray w (fun v w' => ∃ c', ((v = .bool true ∧ C (i + 1) c') ∨ (v = .bool false ∧ Cs c')) ∧ Turn w (c ++ cx) w' c')
def IsFun (P : Program) (fv : Value) : Prop := ∃ g cap, fv = .func (.func g) #[] cap ∧ bH P g
def aCl (P : Program) (fv : Value) (N : Nat) (X : Nat → List Value → List HP → Prop) (wr : World) (Kp : Nat → Prop) : Prop :=
  ∀ y C Cs w c, sU P y N X C Cs w c → (∀ k, Kp k → w.heap[k]? = wr.heap[k]? ∧ ¬ (Star c).foot k) → C 0 c → Held w c →
    RetV P fv #[y] w (fun _ w' => ∃ c', (C N c' ∨ Cs c') ∧ Turn w c w' c')
section
variable {P : Program} {f : FuncId} {ro : Option Nat} {n : Nat} {R : Value → World → Prop} {k : List Item} {ds : List Deferred} {env : Env} {w0 w : World} {F : Nat → Prop} {A L : List HP}
theorem eG {l D : Nat} {tm : Array Value} {ps : Array Tmp} {qas body : Code} {L' : List HP} (hs : St w0 F w L) {g : FuncId} [u : BlkUp L l (rec_ .ready none g tm ps qas body D) (rec_ .busy none g tm ps qas body D) L']
    (h : ∀ w', St w0 F w' L' → J P f (some l) n R k ds env w') : J P f (some l) n R (.beginRound :: k) ds env w := by
  have hl : w.heap[l]? = some (rec_ .ready none g tm ps qas body D) := hs.all _ u.up.mem
  have hr : (Instr.beginRound l).run P w = .ok () { w with heap := w.heap.setIfInBounds l (rec_ .busy none g tm ps qas body D) } := by
    simp only [Instr.beginRound, Instr.getLoop, getObj, setObj, Sem.run_bind, Sem.run, hl, rec_, Result.andThen_ok, Sem.run_pure]
  exact J.step (fun tmps cs hn hm => ⟨tmps, hn, hm, .one (stepR_beginRound rfl hr)⟩) (h _ (hs.set (u := u)))
theorem jO {l D : Nat} {tm : Array Value} {ps : Array Tmp} {qas body : Code} {g : FuncId} (hl : w.heap[l]? = some (rec_ .busy none g tm ps qas body D)) (j : Option Code) :
    (Instr.endRound l j).run P w = .ok (.bool j.isNone) { w with heap := w.heap.setIfInBounds l (rec_ (if j.isNone then .ready else .done) j g tm ps qas body D) } := by
  simp only [Instr.endRound, Instr.getLoop, getObj, setObj, Sem.run_bind, Sem.run, hl, rec_, Result.andThen_ok, Sem.run_pure]
theorem jI {l D : Nat} {tm : Array Value} {ps : Array Tmp} {qas body : Code} {L' : List HP} (hs : St w0 F w L) {g : FuncId} [u : BlkUp L l (rec_ .busy none g tm ps qas body D) (rec_ .ready none g tm ps qas body D) L']
    (h : ∀ w', St w0 F w' L' → R (.bool true) w') : J P f (some l) n R [] ds env w := by
  have hl : w.heap[l]? = some (rec_ .busy none g tm ps qas body D) := hs.all _ u.up.mem
  have hr := jO (P := P) hl none
  intro tmps cs hn hm
  exact ⟨_, _, _, w, h _ (hs.set (u := u)), Steps.refl _ _, fun c r hcs => by subst hcs; exact .one (stepR_round_end rfl rfl hr)⟩
theorem rE {l D : Nat} {tm : Array Value} {ps : Array Tmp} {qas body : Code} {L' : List HP} (hs : St w0 F w L) {g : FuncId} [u : BlkUp L l (rec_ .busy none g tm ps qas body D) (rec_ .done (some .ret) g tm ps qas body D) L']
    (h : ∀ w', St w0 F w' L' → R (.bool false) w') : J P f (some l) n R (.code .ret :: k) ds env w := by
  have hl : w.heap[l]? = some (rec_ .busy none g tm ps qas body D) := hs.all _ u.up.mem
  have hr := jO (P := P) hl (some .ret)
  intro tmps cs hn hm
  exact ⟨_, _, _, w, h _ (hs.set (u := u)), Steps.refl _ _, fun c r hcs => by subst hcs; exact .one (stepR_round_ret rfl rfl hr)⟩
theorem pY {l D id : Nat} {tm : Array Value} {ps : Array Tmp} {qas body : Code} {L' : List HP} (hs : St w0 F w L) {g : FuncId} (hx : exitTo id k = none) [u : BlkUp L l (rec_ .busy none g tm ps qas body D) (rec_ .done (some (.exit id)) g tm ps qas body D) L']
    (h : ∀ w', St w0 F w' L' → R (.bool false) w') : J P f (some l) n R (.code (.exit id) :: k) ds env w := by
  have hl : w.heap[l]? = some (rec_ .busy none g tm ps qas body D) := hs.all _ u.up.mem
  have hr := jO (P := P) hl (some (.exit id))
  intro tmps cs hn hm
  exact ⟨_, _, _, w, h _ (hs.set (u := u)), Steps.refl _ _, fun c r hcs => by subst hcs; exact .one (stepR_round_exit rfl rfl hx hr)⟩
def uV (C : Nat → List HP → Prop) (Cs : Code → List HP → Prop) (l D : Nat) (tm : Array Value) (g : FuncId) (ps : Array Tmp) (qas body : Code) (i : Nat) (w : World) (A0 : List HP) (v : Value) (w' : World) : Prop :=
  (v = .bool true ∧ ∃ A', C (i + 1) A' ∧ Turn w A0 w' (Blk l (rec_ .ready none g tm ps qas body D) :: A')) ∨
  (v = .bool false ∧ ∃ j A', Cs j A' ∧ Turn w A0 w' (Blk l (rec_ .done (some j) g tm ps qas body D) :: A'))
def tQ : List Tmp → List Value → Env → Env
  | t :: ts, v :: vs, e => tQ ts vs ((t, v) :: e)
  | _, _, e => e
theorem nR {n : Nat} : ∀ (ps : List Tmp) (vs : List Value) (tm : Array Value) (e : Env), tm.size = n → (∀ t ∈ ps, t < n) → Match tm e → ps.length = vs.length →
    ((ps.zip vs).foldl (fun (tm : Array Value) (x : Tmp × Value) => tm.setIfInBounds x.1 x.2) tm).size = n ∧ Match ((ps.zip vs).foldl (fun (tm : Array Value) (x : Tmp × Value) => tm.setIfInBounds x.1 x.2) tm) (tQ ps vs e) := by
  intro ps
  induction ps with
  | nil => intro vs tm e hn _ hm _; cases vs <;> exact ⟨hn, hm⟩
  | cons t ts ih =>
    intro vs tm e hn ht hm hl
    cases vs with
    | nil => simp at hl
    | cons v vs =>
      simp only [List.zip_cons_cons, List.foldl_cons, tQ]
      refine ih vs _ _ (by simpa using hn) (fun t' ht' => ht t' (List.mem_cons_of_mem _ ht')) ?_ (by simpa using hl)
      have := hm.put (d := some t) (fun t' e => by cases e; rw [hn]; exact ht t List.mem_cons_self) v
      simpa [Act.put, put] using this
theorem tE {fop : Operand} {ps : List Tmp} {qas body : Code} {fv : Value} {N : Nat} {X : Nat → List Value → List HP → Prop} {wr : World} {Kp : Nat → Prop} (hs : St w0 F w (A ++ L)) (hf : ev env fop = some fv) (hfv : IsFun P fv) (it : aCl P fv N X wr Kp)
    (C : Nat → List HP → Prop) (Cs : Code → List HP → Prop) (h0 : C 0 A) (hKp : ∀ k, Kp k → w.heap[k]? = wr.heap[k]? ∧ ¬ (Star A).foot k ∧ k < w.heap.size) (hps : ∀ t ∈ ps, t < n) (hX : ∀ i vals cx, X i vals cx → vals.length = ps.length)
    (hbody : ∀ l D tm i w1 A1 cx vals, w.heap.size ≤ D → D < l → i < N → C i A1 → X i vals cx → Held w1 (Blk l (rec_ .ready none f tm ps.toArray qas body D) :: (A1 ++ cx)) → (∀ k, k < w.heap.size → ¬ (Star A).foot k → w1.heap[k]? = w.heap[k]?) →
      J P f (some l) n (uV C Cs l D tm f ps.toArray qas body i w1 (Blk l (rec_ .ready none f tm ps.toArray qas body D) :: (A1 ++ cx))) [.code qas, .beginRound, .code body] [] (tQ ps vals env) w1)
    (hdone : ∀ w2 D A2, C N A2 → St w0 F w2 (Blk D (.deferred (some [])) :: (A2 ++ L)) → J P f none n R k (⟨.collected D, #[]⟩ :: ds) env w2)
    (hstop : ∀ w2 D A2 j, Cs j A2 → St w0 F w2 (Blk D (.deferred (some [])) :: (A2 ++ L)) → J P f none n R (.code j :: k) (⟨.collected D, #[]⟩ :: ds) env w2) :
    J P f none n R (.code (.rangeFunc fop ps.toArray qas body) :: k) ds env w := by
  intro tmps cs hn hm
  -- entering
  obtain ⟨D, hD⟩ : ∃ D, w.heap.size = D := ⟨_, rfl⟩
  let w1 : World := w.alloc (.deferred (some []))
  let w2 : World := w1.alloc (rec_ .ready none f tmps ps.toArray qas body D)
  have hf1 := Fresh.alloc w (.deferred (some []))
  have hf2 := Fresh.alloc w1 (rec_ .ready none f tmps ps.toArray qas body D)
  have hs1 : w1.heap.size = D + 1 := by simp [w1, hD]
  rw [hD] at hf1
  rw [hs1] at hf2
  have hst : St w0 F w2 (Blk (D + 1) (rec_ .ready none f tmps ps.toArray qas body D) :: (A ++ (Blk D (.deferred (some [])) :: L))) := by
    have := ((hs.fresh hf1).fresh hf2)
    exact this.perm (List.Perm.cons _ (by simpa using (List.perm_middle (l₁ := A) (a := Blk D (.deferred (some []))) (l₂ := L)).symm))
  have he : (Instr.enterLoop (base f none).fn tmps ps.toArray qas body (base f none).roundOf).run P w = .ok (D + 1, [⟨.collected D, #[]⟩]) w2 := by
    simp only [Instr.enterLoop, base, newObj, Sem.run_bind, Sem.run, Result.andThen_ok, Sem.run_pure, hD]
    congr 1
    congr 1
  have hsz2 : w2.heap.size = D + 2 := by simp [w2, hs1]
  have hw2 : ∀ k, k < w.heap.size → w2.heap[k]? = w.heap[k]? := fun k hk => by
    rw [hf2.ext.block k (by rw [hs1]; omega), hf1.ext.block k hk]
  -- the function is called
  obtain ⟨c0, hc0⟩ : ∃ c0 : List HP, c0 = Blk (D + 1) (rec_ .ready none f tmps ps.toArray qas body D) :: A := ⟨_, rfl⟩
  have hheld : Held w2 c0 := by rw [hc0]; exact St.held (L := Blk D (.deferred (some [])) :: L) hst
  have hstar : ∀ k, k < w.heap.size → (Star c0).foot k → (Star A).foot k := fun k hk ⟨c, hc, hck⟩ => by
    rw [hc0] at hc
    rcases List.mem_cons.1 hc with rfl | hc
    · simp only [Blk] at hck; omega
    · exact ⟨c, hc, hck⟩
  have hy : sU P (.func (.yield (D + 1)) #[] #[]) N X (fun i c => ∃ A1, c = Blk (D + 1) (rec_ .ready none f tmps ps.toArray qas body D) :: A1 ∧ C i A1)
      (fun c => ∃ j A1, c = Blk (D + 1) (rec_ .done (some j) f tmps ps.toArray qas body D) :: A1 ∧ Cs j A1) w2 c0 := by
    rintro i w3 vals cx c hi ⟨A1, rfl, hC⟩ hXi hh hF
    have hl : w3.heap[D + 1]? = some (rec_ .ready none f tmps ps.toArray qas body D) := hh.1.1 _ (List.mem_append_left _ List.mem_cons_self)
    have hlen := hX i vals cx hXi
    refine ⟨⟨.fn (.yield (D + 1)) #[], vals.toArray⟩, .round (D + 1) f ((ps.zip vals).foldl (fun (tm : Array Value) (x : Tmp × Value) => tm.setIfInBounds x.1 x.2) tmps) qas body, w3, ?_, ?_, ?_⟩
    · simp [Deferred.ofValue]
    · simp only [invoke, Instr.yield, Instr.getLoop, getObj, Sem.run_bind, Sem.run, hl, rec_, Result.andThen_ok, Sem.run_pure, List.size_toArray, hlen, ne_eq, not_true_eq_false, if_false]
      congr 2
      simp
    · intro cf cs'
      obtain ⟨hsz, hmt⟩ := nR ps vals tmps env hn hps hm hlen.symm
      have hJ := hbody (D + 1) D tmps i w3 A1 cx vals (by omega) (by omega) hi hC hXi hh (fun k hk hnA => by
        rw [hF.old k (by rw [hsz2]; omega) (fun hc => hnA (hstar k hk hc)), hw2 k hk])
      obtain ⟨v, w', fr, w'', hR, hst', hfin⟩ := hJ _ (cf :: cs') hsz hmt
      refine ⟨v, w', ?_, hst'.trans (hfin cf cs' rfl)⟩
      rcases hR with ⟨rfl, A', hA', ht⟩ | ⟨rfl, j, A', hA', ht⟩
      · exact ⟨_, .inl ⟨rfl, A', rfl, hA'⟩, ht⟩
      · exact ⟨_, .inr ⟨rfl, j, A', rfl, hA'⟩, ht⟩
  obtain ⟨d, nx, w3, hres, hinv, hnx⟩ := it (.func (.yield (D + 1)) #[] #[]) _ _ w2 c0 hy (fun k hk => by
    obtain ⟨h1, h2, h3⟩ := hKp k hk
    exact ⟨by rw [hw2 k h3]; exact h1, fun hc => h2 (hstar k h3 hc)⟩) ⟨A, hc0, h0⟩ hheld
  have hresolve : (resolve (Act.eval ⟨tmps, ds⟩) (rangeCall fop (D + 1)) 0).run P w2 = .ok d w2 := by
    have e : Act.eval ⟨tmps, ds⟩ fop = fv := hm.eval hf
    simp only [resolve, e]
    have e2 : (#[Operand.const (.func (.yield (D + 1)) #[] #[])] : Array Operand).map (Act.eval ⟨tmps, ds⟩) = #[.func (.yield (D + 1)) #[] #[]] := by simp [Act.eval]
    rw [e2]; exact hres
  -- what lies behind it
  have after : ∀ v w4 c', ((∃ A1, c' = Blk (D + 1) (rec_ .ready none f tmps ps.toArray qas body D) :: A1 ∧ C N A1) ∨ ∃ j A1, c' = Blk (D + 1) (rec_ .done (some j) f tmps ps.toArray qas body D) :: A1 ∧ Cs j A1) → Turn w2 c0 w4 c' →
      ∃ v' w' fr w'', R v' w' ∧ Steps P (lone (((base f none).atR ⟨tmps, ⟨.collected D, #[]⟩ :: ds⟩ (.inRangeFunc (D + 1) :: k)).finish v) cs w4) (lone fr cs w'') ∧ Fin P f none fr cs w'' v' w' := by
    intro v w4 c' hc' ht
    rw [finish_atR_inRangeFunc]
    have hst4 : St w0 F w4 (c' ++ (Blk D (.deferred (some [])) :: L)) := by
      refine St.take (A := c0) ?_ ht
      rw [hc0]; exact hst
    rcases hc' with ⟨A1, rfl, hC⟩ | ⟨j, A1, rfl, hC⟩
    · have hl : w4.heap[D + 1]? = some (rec_ .ready none f tmps ps.toArray qas body D) := hst4.all (Blk (D + 1) (rec_ .ready none f tmps ps.toArray qas body D)) (by simp)
      have hend : (Instr.endLoop (D + 1)).run P w4 = .ok none { w4 with heap := w4.heap.setIfInBounds (D + 1) (rec_ .exhausted none f tmps ps.toArray qas body D) } := by
        have hb : (LoopState.ready == LoopState.busy) = false := rfl
        simp [Instr.endLoop, Instr.getLoop, getObj, setObj, Sem.run, hl, rec_]
      have hst5 := hst4.set (b := D + 1) (o := rec_ .ready none f tmps ps.toArray qas body D) (o' := rec_ .exhausted none f tmps ps.toArray qas body D) (L' := Blk (D + 1) (rec_ .exhausted none f tmps ps.toArray qas body D) :: (A1 ++ (Blk D (.deferred (some [])) :: L))) (u := ⟨Up.head _ _ _⟩)
      have hst6 : St w0 F _ (Blk D (.deferred (some [])) :: (A1 ++ L)) := (hst5.sub (M := A1 ++ (Blk D (.deferred (some [])) :: L)) (List.sublist_cons_self _ _)).perm List.perm_middle
      obtain ⟨v', w', fr, w'', hR, hs', hfin⟩ := hdone _ D A1 hC hst6 tmps cs hn hm
      exact ⟨v', w', fr, w'', hR, .head (stepR_endRangeFunc hend) hs', hfin⟩
    · have hl : w4.heap[D + 1]? = some (rec_ .done (some j) f tmps ps.toArray qas body D) := hst4.all (Blk (D + 1) (rec_ .done (some j) f tmps ps.toArray qas body D)) (by simp)
      have hend : (Instr.endLoop (D + 1)).run P w4 = .ok (some j) { w4 with heap := w4.heap.setIfInBounds (D + 1) (rec_ .exhausted (some j) f tmps ps.toArray qas body D) } := by
        simp [Instr.endLoop, Instr.getLoop, getObj, setObj, Sem.run, hl, rec_]
      have hst5 := hst4.set (b := D + 1) (o := rec_ .done (some j) f tmps ps.toArray qas body D) (o' := rec_ .exhausted (some j) f tmps ps.toArray qas body D) (L' := Blk (D + 1) (rec_ .exhausted (some j) f tmps ps.toArray qas body D) :: (A1 ++ (Blk D (.deferred (some [])) :: L))) (u := ⟨Up.head _ _ _⟩)
      have hst6 : St w0 F _ (Blk D (.deferred (some [])) :: (A1 ++ L)) := (hst5.sub (M := A1 ++ (Blk D (.deferred (some [])) :: L)) (List.sublist_cons_self _ _)).perm List.perm_middle
      obtain ⟨v', w', fr, w'', hR, hs', hfin⟩ := hstop _ D A1 j hC hst6 tmps cs hn hm
      exact ⟨v', w', fr, w'', hR, .head (stepR_endRangeFunc hend) hs', hfin⟩
  obtain ⟨g0, cap, rfl, hen⟩ := hfv
  have hnx' : ∃ g as_, nx = .enter g as_ ∧ w3 = w2 := by
    simp only [Deferred.ofValue, Sem.run_pure, Result.ok.injEq] at hres
    obtain ⟨rfl, -⟩ := hres
    simp only [invoke] at hinv
    rw [hen] at hinv
    injection hinv with h1 h2
    exact ⟨_, _, h1.symm, h2.symm⟩
  cases nx with
  | enter g as_ =>
    obtain ⟨v, w4, fr1, ⟨c', hc', ht⟩, hst1, hfn, hlv⟩ := hnx ((base f none).atR ⟨tmps, ⟨.collected D, #[]⟩ :: ds⟩ (.inRangeFunc (D + 1) :: k) :: cs)
    obtain ⟨v', w', fr, w'', hR, hs', hfin⟩ := after v w4 c' hc' ht
    exact ⟨v', w', fr, w'', hR, .head (stepR_rangeFunc he hresolve hinv) (hst1.trans (.head (step_leave_returned hlv) hs')), hfin⟩
  | _ => obtain ⟨_, _, h, _⟩ := hnx'; cases h
def Lv (P : Program) (f : FuncId) (n : Nat) (R : Value → World → Prop) (ds : List Deferred) (env : Env) (w : World) : Prop :=
  ∀ (tmps : Array Value) (todo : List Item) (cs : List Frame), tmps.size = n → Match tmps env →
    ∃ v w' fr, R v w' ∧ Steps P (lone { (base f none).atR ⟨tmps, ds⟩ todo with mode := .returning } cs w) (lone fr cs w') ∧ fr.fn = f ∧ fr.leaving P w' (.returned v)
theorem pX {fn : Func} {l : List ResultVar} {vs : List Value} (hf : P.funcs[f]? = some fn) (hl : fn.results = l.toArray) (h : ResOk P env w l vs) (hR : R (kJ vs) w) : Lv P f n R [] env w := fun _ _ _ _ hm =>
  ⟨_, w, _, hR, Steps.refl _ _, rfl, rfl, rfl, rfl, fn, hf, h.run hm hl⟩
theorem lS {D : Nat} (hs : St w0 F w (Blk D (.deferred (some [])) :: L)) (h : ∀ w', St w0 F w' L → Lv P f n R ds env w') : Lv P f n R (⟨.collected D, #[]⟩ :: ds) env w := by
  have hl : w.heap[D]? = some (.deferred (some [])) := hs.all _ List.mem_cons_self
  have hs2 := hs.set (b := D) (o := .deferred (some [])) (o' := .deferred none)
  have hrun : (Instr.takeDeferred D).run P w = .ok [] { w with heap := w.heap.setIfInBounds D (.deferred none) } := by
    simp [Instr.takeDeferred, getObj, setObj, Sem.run, hl]
  intro tmps todo cs hn hm
  obtain ⟨v, w', fr, hR, hst, hfn, hlv⟩ := h _ (hs2.sub (List.sublist_cons_self _ _)) tmps todo cs hn hm
  refine ⟨v, w', fr, hR, .head (step_lone_go ?_) hst, hfn, hlv⟩
  simp [stepG, unwind, Frame.atR, Sem.runT_eq, hrun, GStep.bare_after]
theorem pZ (h : Lv P f n R ds env w) : J P f none n R (.code .ret :: k) ds env w := fun tmps cs hn hm => by
  obtain ⟨v, w', fr, hR, hst, hfn, hlv⟩ := h tmps (.code .ret :: k) cs hn hm
  exact ⟨v, w', fr, w', hR, .head (stepR_ret rfl) hst, hfn, rfl, hlv⟩
theorem St.keep {b : Nat} {o : Obj} (h : St w0 F w L) (hb : w0.heap[b]? = some o) (hf : ¬ F b) : w.heap[b]? = some o := (h.frm.old b (Array.getElem?_eq_some_iff.1 hb).1 hf).trans hb
theorem St.keep_cell {p : Addr} {v : Value} (h : St w0 F w L) (hb : w0.cell? p = some v) (hf : ¬ F p.block) : w.cell? p = some v := (World.cell?_of_block (h.frm.old _ (World.block_lt_of_cell? w0 p hb) hf)).trans hb
end
end Go.Eng
end
section
namespace Go.Eng
open Go.RowKit
section
variable {P : Program} {env : Env} {w0 w w' : World} {F : Nat → Prop} {L L' : List HP} {dst : Option Tmp} {ty : TypeId} {pos : String} {af : Array Edge} {gd : Option (Nat × Bool)} {S : Value → World → Prop}
theorem fA {cs vs : List Value} {off : Nat} (h : off + vs.length ≤ cs.length) : (bR cs off vs).length = cs.length := by
  simp only [bR, List.length_append, List.length_take, List.length_drop]; omega
theorem qK (cs : List Value) (off : Nat) : bR cs off [] = cs := by simp [bR]
theorem jN {cur vs : List Value} {o off n : Nat} (h : off + vs.length ≤ n) (hn : o + n ≤ cur.length) : ((bR cur (o + off) vs).drop o).take n = bR ((cur.drop o).take n) off vs := by
  apply List.ext_getElem?
  intro i
  simp only [bR, List.getElem?_take, List.getElem?_drop, List.getElem?_append, List.length_append, List.length_take, List.length_drop]
  repeat' split
  all_goals first | rfl | omega | (congr 1; omega) | (rw [List.getElem?_eq_none (by omega)]) | skip
theorem fS {α : Type} : ([] : List (Option α)) = List.map some [] := rfl
theorem eR {α : Type} {a : α} {l : List (Option α)} {os : List α} (h : l = os.map some) : some a :: l = (a :: os).map some := by rw [h]; rfl
theorem bX {cal : Operand} {args : List Operand} {at_ : Array TypeId} {fv : Value} {avs : List Value} (hc : ev env cal = some fv) (ha : evs env args = some avs) (hv : RetV P fv avs.toArray w S) :
    OpR P env ⟨dst, .call ⟨.value cal, args.toArray, at_⟩, ty, pos, af, gd⟩ w S := sZ hc ha hv
end
theorem St.foot0 {w0 w : World} {A L : List HP} (h : St w0 NoF w (A ++ L)) : ∀ k, (Star A).foot k → w0.heap.size ≤ k := fun k ⟨c, hc, hk⟩ => ((h.foot c (List.mem_append_left _ hc) k hk).2).resolve_left id
end Go.Eng
end
section
namespace Go.Eng
open Go.RowKit
section
variable {P : Program} {env : Env} {w0 w w' : World} {F : Nat → Prop} {L L' : List HP} {dst : Option Tmp} {ty : TypeId} {pos : String} {af : Array Edge} {gd : Option (Nat × Bool)} {S : Value → World → Prop}
theorem rA {T e : Nat} [U : Und P T (.slice e)] (a : Option Addr) (n c n' c' : Nat) : (Op.equal T (.slice a n c) (.slice none n' c')).run P w = .ok a.isNone w := by
  have e1 : Op.equal T (.slice a n c) (.slice none n' c') = Op.equalIn (9999 + 1) T (.slice a n c) (.slice none n' c') := rfl
  rw [e1, Op.equalIn]
  cases a <;> simp [Sem.run_bind, run_underlying U.h]
theorem aB8 {T T' e n c n' c' : Nat} {a : Option Addr} {x y : Operand} [U : Und P T (.slice e)] (hx : ev env x = some (.slice a n c)) (hy : ev env y = some (.slice none n' c')) (hS : S (.bool a.isNone) w) : OpR P env ⟨dst, .binOp .eql T x y T', ty, pos, af, gd⟩ w S :=
  .val (fun _ hm => by simp [execOp, hm.eval hx, hm.eval hy, eqGuard, binOp, rA (P := P) (T := T) (e := e)]) hS
theorem OpR_neNil {T T' e n c n' c' : Nat} {a : Option Addr} {x y : Operand} [U : Und P T (.slice e)] (hx : ev env x = some (.slice a n c)) (hy : ev env y = some (.slice none n' c')) (hS : S (.bool (!a.isNone)) w) : OpR P env ⟨dst, .binOp .neq T x y T', ty, pos, af, gd⟩ w S :=
  .val (fun _ hm => by simp [execOp, hm.eval hx, hm.eval hy, eqGuard, binOp, rA (P := P) (T := T) (e := e)]) hS
end
section
variable {α : Type} {d : Ty α} {w w0 w' : World} {F R R' : Nat → Prop} {L M : List HP} {a : Option Addr} {n c e : Nat} {xs : List α} {cells : List Value}
theorem SlR.weak {R R' : Nat → Prop} (s : SlR d R w a n xs) (h : ∀ k, R k → R' k) : SlR d R' w a n xs :=
  ⟨s.len, s.nil, s.plain, fun b o ha hn => h b (s.reg b o ha hn), fun i x hx => by obtain ⟨es, hr, hc⟩ := s.el i x hx; exact ⟨es, d.weak hr h, hc⟩⟩
structure Sl (d : Ty α) (R : Nat → Prop) (w : World) (a : Option Addr) (n c : Nat) (xs : List α) : Prop where
  le : n ≤ c
  cap : c ≤ maxLen
  nil0 : a = none → c = 0
  sl : SlR d R w a n xs
theorem Sl.len (h : Sl d R w a n c xs) : xs.length = n := h.sl.len
theorem Sl.weak (h : Sl d R w a n c xs) (hr : ∀ k, R k → R' k) : Sl d R' w a n c xs := ⟨h.le, h.cap, h.nil0, h.sl.weak hr⟩
theorem Sl.loc (h : Sl d R w a n c xs) (hk : ∀ k, R k → k < w.heap.size → w'.heap[k]? = w.heap[k]?) : Sl d R w' a n c xs := ⟨h.le, h.cap, h.nil0, h.sl.loc' hk⟩
theorem Sl.st (h : Sl d R w0 a n c xs) (t : St w0 NoF w L) : Sl d R w a n c xs := h.loc (fun k _ hk => t.frm.old k hk id)
theorem St.conv2 {c1 c2 c' : HP} (h : St w0 F w (c1 :: c2 :: L)) (hf : ∀ k, c'.foot k → c1.foot k ∨ c2.foot k) (hh : c1.holds w → c2.holds w → c'.holds w) : St w0 F w (c' :: L) :=
  (h.join).conv (fun k hk => hf k hk) (fun hw => hh hw.1 hw.2)
theorem RowV.sl {k : IntKind} {xs : List Int} (h : RowV w a n c e 1 (xs.map (.int k))) (hk : ∀ v ∈ xs, inK k v) : Sl (tInt k) (dH a) w a n c xs := ⟨h.cap.1, h.cap.2.1, h.cap.2.2, h.slr hk⟩
theorem lC {b e : Nat} {v : Value} {fz : Nat × Nat} (h : w.heap[b]? = some (.cells #[v] e fz)) (hv : v.oneCell' = true) : Src w (some ⟨b, 0, none⟩) 1 1 [v] := by
  refine ⟨rfl, fun h => (nomatch h), fun u hu => ?_, fun b' o hb j u hj => ?_⟩
  · rw [List.mem_singleton.1 hu]; exact hv
  · cases hb
    exact cA h (by simpa using hj)
theorem cJ {p : Prop} {b o : Nat} : p → iF (some ⟨b, o, none⟩) := fun _ _ h => by cases h; rfl
end
section
variable {P : Program} {env : Env} {w0 w w' : World} {F : Nat → Prop} {L L' : List HP} {dst : Option Tmp} {ty : TypeId} {pos : String} {af : Array Edge} {gd : Option (Nat × Bool)} {S : Value → World → Prop}
theorem xS (xs : List Value) (i : Nat) (v : Value) (h : i < xs.length) : bR xs i [v] = xs.set i v := by
  rw [bR, List.set_eq_take_append_cons_drop, if_pos h]; simp
end
theorem Src.st {w0 w : World} {L : List HP} {a : Option Addr} {m sz : Nat} {news : List Value} (h : Src w0 a m sz news) (hs : St w0 NoF w L) : Src w a m sz news :=
  ⟨h.1, h.2.1, h.2.2.1, fun b o ha j u hj => hs.old_cell (h.2.2.2 b o ha j u hj)⟩
end Go.Eng
end
section
set_option linter.unusedVariables false
namespace Go.Eng
open Go.Proofs
set_option maxRecDepth 100000
instance : Scal Go.Proofs.Tryz.prog 3 := ⟨by kernel_rfl⟩
instance : Sz Go.Proofs.Tryz.prog 3 1 := ⟨by kernel_rfl⟩
instance : Byt Go.Proofs.Tryz.prog 3 8 := ⟨by kernel_rfl⟩
instance : Und Go.Proofs.Tryz.prog 3 (.int .i64) := ⟨by kernel_rfl⟩
instance : Zer Go.Proofs.Tryz.prog 3 (.int .i64 0) := ⟨by kernel_rfl⟩
instance : Scal Go.Proofs.Tryz.prog 4 := ⟨by kernel_rfl⟩
instance : Sz Go.Proofs.Tryz.prog 4 1 := ⟨by kernel_rfl⟩
instance : Und Go.Proofs.Tryz.prog 4 (.bool) := ⟨by kernel_rfl⟩
instance : Zer Go.Proofs.Tryz.prog 4 (.bool false) := ⟨by kernel_rfl⟩
instance : Und Go.Proofs.Tryz.prog 5 (.int .u8) := ⟨by kernel_rfl⟩
instance : Scal Go.Proofs.Tryz.prog 24 := ⟨by kernel_rfl⟩
instance : Sz Go.Proofs.Tryz.prog 24 1 := ⟨by kernel_rfl⟩
instance : Scal Go.Proofs.Tryz.prog 28 := ⟨by kernel_rfl⟩
instance : Sz Go.Proofs.Tryz.prog 28 1 := ⟨by kernel_rfl⟩
instance : Und Go.Proofs.Tryz.prog 28 (.int .u64) := ⟨by kernel_rfl⟩
instance : Scal Go.Proofs.Tryz.prog 29 := ⟨by kernel_rfl⟩
instance : Sz Go.Proofs.Tryz.prog 29 1 := ⟨by kernel_rfl⟩
instance : Byt Go.Proofs.Tryz.prog 29 8 := ⟨by kernel_rfl⟩
instance : Und Go.Proofs.Tryz.prog 29 (.int .u64) := ⟨by kernel_rfl⟩
instance : Zer Go.Proofs.Tryz.prog 29 (.int .u64 0) := ⟨by kernel_rfl⟩
instance : Scal Go.Proofs.Tryz.prog 43 := ⟨by kernel_rfl⟩
instance : Sz Go.Proofs.Tryz.prog 43 1 := ⟨by kernel_rfl⟩
instance : Und Go.Proofs.Tryz.prog 43 (.slice 29) := ⟨by kernel_rfl⟩
instance : Scal Go.Proofs.Tryz.prog 52 := ⟨by kernel_rfl⟩
instance : Sz Go.Proofs.Tryz.prog 52 1 := ⟨by kernel_rfl⟩
instance : Und Go.Proofs.Tryz.prog 52 (.slice 79) := ⟨by kernel_rfl⟩
instance : Scal Go.Proofs.Tryz.prog 53 := ⟨by kernel_rfl⟩
instance : Sz Go.Proofs.Tryz.prog 53 1 := ⟨by kernel_rfl⟩
instance : Und Go.Proofs.Tryz.prog 53 (.slice 139) := ⟨by kernel_rfl⟩
instance : Agg Go.Proofs.Tryz.prog 55 1 := ⟨by kernel_rfl, by kernel_rfl⟩
instance : Sz Go.Proofs.Tryz.prog 55 1 := ⟨by kernel_rfl⟩
instance : Zer Go.Proofs.Tryz.prog 55 (.agg #[.slice none 0 0]) := ⟨by kernel_rfl⟩
instance : Flds Go.Proofs.Tryz.prog 55 [(0, 1, false)] := ⟨by kernel_rfl⟩
instance : Agg Go.Proofs.Tryz.prog 57 2 := ⟨by kernel_rfl, by kernel_rfl⟩
instance : Sz Go.Proofs.Tryz.prog 57 2 := ⟨by kernel_rfl⟩
instance : Zer Go.Proofs.Tryz.prog 57 (.agg #[.slice none 0 0, .slice none 0 0]) := ⟨by kernel_rfl⟩
instance : Flds Go.Proofs.Tryz.prog 57 [(0, 1, false), (1, 1, true)] := ⟨by kernel_rfl⟩
instance : Und Go.Proofs.Tryz.prog 58 (.slice 61) := ⟨by kernel_rfl⟩
instance : Agg Go.Proofs.Tryz.prog 61 4 := ⟨by kernel_rfl, by kernel_rfl⟩
instance : Sz Go.Proofs.Tryz.prog 61 4 := ⟨by kernel_rfl⟩
instance : Zer Go.Proofs.Tryz.prog 61 (.agg #[.int .i64 0, .int .i64 0, .int .u64 0, .slice none 0 0]) := ⟨by kernel_rfl⟩
instance : Flds Go.Proofs.Tryz.prog 61 [(0, 1, false), (1, 1, false), (2, 1, false), (3, 1, false)] := ⟨by kernel_rfl⟩
instance : Scal Go.Proofs.Tryz.prog 77 := ⟨by kernel_rfl⟩
instance : Sz Go.Proofs.Tryz.prog 77 1 := ⟨by kernel_rfl⟩
instance : Und Go.Proofs.Tryz.prog 77 (.slice 93) := ⟨by kernel_rfl⟩
instance : Agg Go.Proofs.Tryz.prog 79 4 := ⟨by kernel_rfl, by kernel_rfl⟩
instance : Sz Go.Proofs.Tryz.prog 79 4 := ⟨by kernel_rfl⟩
instance : Byt Go.Proofs.Tryz.prog 79 80 := ⟨by kernel_rfl⟩
instance : Zer Go.Proofs.Tryz.prog 79 (.agg #[.bool false, .slice none 0 0, .slice none 0 0, .slice none 0 0]) := ⟨by kernel_rfl⟩
instance : Flds Go.Proofs.Tryz.prog 79 [(0, 1, false), (1, 1, false), (2, 1, false), (3, 1, false)] := ⟨by kernel_rfl⟩
instance : Scal Go.Proofs.Tryz.prog 86 := ⟨by kernel_rfl⟩
instance : Sz Go.Proofs.Tryz.prog 86 1 := ⟨by kernel_rfl⟩
instance : Und Go.Proofs.Tryz.prog 86 (.slice 3) := ⟨by kernel_rfl⟩
instance : Zer Go.Proofs.Tryz.prog 86 (.slice none 0 0) := ⟨by kernel_rfl⟩
instance : Agg Go.Proofs.Tryz.prog 93 2 := ⟨by kernel_rfl, by kernel_rfl⟩
instance : Sz Go.Proofs.Tryz.prog 93 2 := ⟨by kernel_rfl⟩
instance : Byt Go.Proofs.Tryz.prog 93 16 := ⟨by kernel_rfl⟩
instance : Zer Go.Proofs.Tryz.prog 93 (.agg #[.int .u64 0, .int .i64 0]) := ⟨by kernel_rfl⟩
instance : Flds Go.Proofs.Tryz.prog 93 [(0, 1, false), (1, 1, false)] := ⟨by kernel_rfl⟩
instance : Und Go.Proofs.Tryz.prog 106 (.int .u64) := ⟨by kernel_rfl⟩
instance : Scal Go.Proofs.Tryz.prog 130 := ⟨by kernel_rfl⟩
instance : Agg Go.Proofs.Tryz.prog 139 3 := ⟨by kernel_rfl, by kernel_rfl⟩
instance : Sz Go.Proofs.Tryz.prog 139 3 := ⟨by kernel_rfl⟩
instance : Byt Go.Proofs.Tryz.prog 139 40 := ⟨by kernel_rfl⟩
instance : Zer Go.Proofs.Tryz.prog 139 (.agg #[.int .i64 0, .slice none 0 0, .int .i64 0]) := ⟨by kernel_rfl⟩
instance : Flds Go.Proofs.Tryz.prog 139 [(0, 1, false), (1, 1, false), (2, 1, false)] := ⟨by kernel_rfl⟩
instance : Agg Go.Proofs.Tryz.prog 218 3 := ⟨by kernel_rfl, by kernel_rfl⟩
instance : Sz Go.Proofs.Tryz.prog 218 3 := ⟨by kernel_rfl⟩
instance : Und Go.Proofs.Tryz.prog 218 (.array 3 3) := ⟨by kernel_rfl⟩
instance : Zer Go.Proofs.Tryz.prog 218 (.agg #[.int .i64 0, .int .i64 0, .int .i64 0]) := ⟨by kernel_rfl⟩
instance : Sz Go.Proofs.Tryz.prog 239 5 := ⟨by kernel_rfl⟩
instance : Und Go.Proofs.Tryz.prog 239 (.array 5 24) := ⟨by kernel_rfl⟩
instance : Zer Go.Proofs.Tryz.prog 239 (.agg #[.nilFunc, .nilFunc, .nilFunc, .nilFunc, .nilFunc]) := ⟨by kernel_rfl⟩
instance : Scal Go.Proofs.Tryz.prog 285 := ⟨by kernel_rfl⟩
theorem cQ : (Go.Proofs.Tryz.prog).follows .mixedOrders = true := by kernel_rfl
theorem en24 : bH Go.Proofs.Tryz.prog 24 := aY Go.Proofs.Tryz.func24 (by kernel_rfl) (by kernel_rfl)
theorem en26 : bH Go.Proofs.Tryz.prog 26 := aY Go.Proofs.Tryz.func26 (by kernel_rfl) (by kernel_rfl)
theorem en27 : bH Go.Proofs.Tryz.prog 27 := aY Go.Proofs.Tryz.func27 (by kernel_rfl) (by kernel_rfl)
theorem en28 : bH Go.Proofs.Tryz.prog 28 := aY Go.Proofs.Tryz.func28 (by kernel_rfl) (by kernel_rfl)
theorem en29 : bH Go.Proofs.Tryz.prog 29 := aY Go.Proofs.Tryz.func29 (by kernel_rfl) (by kernel_rfl)
theorem en30 : bH Go.Proofs.Tryz.prog 30 := aY Go.Proofs.Tryz.func30 (by kernel_rfl) (by kernel_rfl)
theorem en31 : bH Go.Proofs.Tryz.prog 31 := aY Go.Proofs.Tryz.func31 (by kernel_rfl) (by kernel_rfl)
theorem en32 : bH Go.Proofs.Tryz.prog 32 := aY Go.Proofs.Tryz.func32 (by kernel_rfl) (by kernel_rfl)
theorem en33 : bH Go.Proofs.Tryz.prog 33 := aY Go.Proofs.Tryz.func33 (by kernel_rfl) (by kernel_rfl)
theorem en34 : bH Go.Proofs.Tryz.prog 34 := aY Go.Proofs.Tryz.func34 (by kernel_rfl) (by kernel_rfl)
theorem en35 : bH Go.Proofs.Tryz.prog 35 := aY Go.Proofs.Tryz.func35 (by kernel_rfl) (by kernel_rfl)
theorem en36 : bH Go.Proofs.Tryz.prog 36 := aY Go.Proofs.Tryz.func36 (by kernel_rfl) (by kernel_rfl)
theorem en37 : bH Go.Proofs.Tryz.prog 37 := aY Go.Proofs.Tryz.func37 (by kernel_rfl) (by kernel_rfl)
theorem en38 : bH Go.Proofs.Tryz.prog 38 := aY Go.Proofs.Tryz.func38 (by kernel_rfl) (by kernel_rfl)
theorem en39 : bH Go.Proofs.Tryz.prog 39 := aY Go.Proofs.Tryz.func39 (by kernel_rfl) (by kernel_rfl)
theorem en40 : bH Go.Proofs.Tryz.prog 40 := aY Go.Proofs.Tryz.func40 (by kernel_rfl) (by kernel_rfl)
theorem en41 : bH Go.Proofs.Tryz.prog 41 := aY Go.Proofs.Tryz.func41 (by kernel_rfl) (by kernel_rfl)
theorem en42 : bH Go.Proofs.Tryz.prog 42 := aY Go.Proofs.Tryz.func42 (by kernel_rfl) (by kernel_rfl)
theorem en43 : bH Go.Proofs.Tryz.prog 43 := aY Go.Proofs.Tryz.func43 (by kernel_rfl) (by kernel_rfl)
theorem en45 : bH Go.Proofs.Tryz.prog 45 := aY Go.Proofs.Tryz.func45 (by kernel_rfl) (by kernel_rfl)
theorem en46 : bH Go.Proofs.Tryz.prog 46 := aY Go.Proofs.Tryz.func46 (by kernel_rfl) (by kernel_rfl)
theorem en47 : bH Go.Proofs.Tryz.prog 47 := aY Go.Proofs.Tryz.func47 (by kernel_rfl) (by kernel_rfl)
theorem en48 : bH Go.Proofs.Tryz.prog 48 := aY Go.Proofs.Tryz.func48 (by kernel_rfl) (by kernel_rfl)
theorem en49 : bH Go.Proofs.Tryz.prog 49 := aY Go.Proofs.Tryz.func49 (by kernel_rfl) (by kernel_rfl)
theorem en54 : bH Go.Proofs.Tryz.prog 54 := aY Go.Proofs.Tryz.func54 (by kernel_rfl) (by kernel_rfl)
theorem en56 : bH Go.Proofs.Tryz.prog 56 := aY Go.Proofs.Tryz.func56 (by kernel_rfl) (by kernel_rfl)
theorem en57 : bH Go.Proofs.Tryz.prog 57 := aY Go.Proofs.Tryz.func57 (by kernel_rfl) (by kernel_rfl)
theorem en59 : bH Go.Proofs.Tryz.prog 59 := aY Go.Proofs.Tryz.func59 (by kernel_rfl) (by kernel_rfl)
theorem en61 : bH Go.Proofs.Tryz.prog 61 := aY Go.Proofs.Tryz.func61 (by kernel_rfl) (by kernel_rfl)
theorem en88 : bH Go.Proofs.Tryz.prog 88 := aY Go.Proofs.Tryz.func88 (by kernel_rfl) (by kernel_rfl)
theorem en89 : bH Go.Proofs.Tryz.prog 89 := aY Go.Proofs.Tryz.func89 (by kernel_rfl) (by kernel_rfl)
theorem en90 : bH Go.Proofs.Tryz.prog 90 := aY Go.Proofs.Tryz.func90 (by kernel_rfl) (by kernel_rfl)
theorem en91 : bH Go.Proofs.Tryz.prog 91 := aY Go.Proofs.Tryz.func91 (by kernel_rfl) (by kernel_rfl)
theorem en92 : bH Go.Proofs.Tryz.prog 92 := aY Go.Proofs.Tryz.func92 (by kernel_rfl) (by kernel_rfl)
theorem en93 : bH Go.Proofs.Tryz.prog 93 := aY Go.Proofs.Tryz.func93 (by kernel_rfl) (by kernel_rfl)
theorem en94 : bH Go.Proofs.Tryz.prog 94 := aY Go.Proofs.Tryz.func94 (by kernel_rfl) (by kernel_rfl)
theorem en95 : bH Go.Proofs.Tryz.prog 95 := aY Go.Proofs.Tryz.func95 (by kernel_rfl) (by kernel_rfl)
theorem en96 : bH Go.Proofs.Tryz.prog 96 := aY Go.Proofs.Tryz.func96 (by kernel_rfl) (by kernel_rfl)
theorem en97 : bH Go.Proofs.Tryz.prog 97 := aY Go.Proofs.Tryz.func97 (by kernel_rfl) (by kernel_rfl)
theorem en98 : bH Go.Proofs.Tryz.prog 98 := aY Go.Proofs.Tryz.func98 (by kernel_rfl) (by kernel_rfl)
theorem en99 : bH Go.Proofs.Tryz.prog 99 := aY Go.Proofs.Tryz.func99 (by kernel_rfl) (by kernel_rfl)
theorem en100 : bH Go.Proofs.Tryz.prog 100 := aY Go.Proofs.Tryz.func100 (by kernel_rfl) (by kernel_rfl)
theorem vU : bH Go.Proofs.Tryz.prog 101 := aY Go.Proofs.Tryz.func101 (by kernel_rfl) (by kernel_rfl)
theorem yT : bH Go.Proofs.Tryz.prog 102 := aY Go.Proofs.Tryz.func102 (by kernel_rfl) (by kernel_rfl)
theorem en103 : bH Go.Proofs.Tryz.prog 103 := aY Go.Proofs.Tryz.func103 (by kernel_rfl) (by kernel_rfl)
theorem en104 : bH Go.Proofs.Tryz.prog 104 := aY Go.Proofs.Tryz.func104 (by kernel_rfl) (by kernel_rfl)
theorem eO : bH Go.Proofs.Tryz.prog 105 := aY Go.Proofs.Tryz.func105 (by kernel_rfl) (by kernel_rfl)
theorem en106 : bH Go.Proofs.Tryz.prog 106 := aY Go.Proofs.Tryz.func106 (by kernel_rfl) (by kernel_rfl)
theorem aBl : bH Go.Proofs.Tryz.prog 107 := aY Go.Proofs.Tryz.func107 (by kernel_rfl) (by kernel_rfl)
theorem yS : bH Go.Proofs.Tryz.prog 108 := aY Go.Proofs.Tryz.func108 (by kernel_rfl) (by kernel_rfl)
theorem yR : bH Go.Proofs.Tryz.prog 109 := aY Go.Proofs.Tryz.func109 (by kernel_rfl) (by kernel_rfl)
theorem en110 : bH Go.Proofs.Tryz.prog 110 := aY Go.Proofs.Tryz.func110 (by kernel_rfl) (by kernel_rfl)
theorem yQ : bH Go.Proofs.Tryz.prog 111 := aY Go.Proofs.Tryz.func111 (by kernel_rfl) (by kernel_rfl)
theorem en112 : bH Go.Proofs.Tryz.prog 112 := aY Go.Proofs.Tryz.func112 (by kernel_rfl) (by kernel_rfl)
theorem en113 : bH Go.Proofs.Tryz.prog 113 := aY Go.Proofs.Tryz.func113 (by kernel_rfl) (by kernel_rfl)
theorem en114 : bH Go.Proofs.Tryz.prog 114 := aY Go.Proofs.Tryz.func114 (by kernel_rfl) (by kernel_rfl)
theorem vT : bH Go.Proofs.Tryz.prog 115 := aY Go.Proofs.Tryz.func115 (by kernel_rfl) (by kernel_rfl)
theorem en116 : bH Go.Proofs.Tryz.prog 116 := aY Go.Proofs.Tryz.func116 (by kernel_rfl) (by kernel_rfl)
theorem en117 : bH Go.Proofs.Tryz.prog 117 := aY Go.Proofs.Tryz.func117 (by kernel_rfl) (by kernel_rfl)
theorem lM : bH Go.Proofs.Tryz.prog 118 := aY Go.Proofs.Tryz.func118 (by kernel_rfl) (by kernel_rfl)
theorem uF : bH Go.Proofs.Tryz.prog 119 := aY Go.Proofs.Tryz.func119 (by kernel_rfl) (by kernel_rfl)
theorem aBk : bH Go.Proofs.Tryz.prog 120 := aY Go.Proofs.Tryz.func120 (by kernel_rfl) (by kernel_rfl)
theorem en121 : bH Go.Proofs.Tryz.prog 121 := aY Go.Proofs.Tryz.func121 (by kernel_rfl) (by kernel_rfl)
theorem en122 : bH Go.Proofs.Tryz.prog 122 := aY Go.Proofs.Tryz.func122 (by kernel_rfl) (by kernel_rfl)
theorem en123 : bH Go.Proofs.Tryz.prog 123 := aY Go.Proofs.Tryz.func123 (by kernel_rfl) (by kernel_rfl)
theorem en124 : bH Go.Proofs.Tryz.prog 124 := aY Go.Proofs.Tryz.func124 (by kernel_rfl) (by kernel_rfl)
theorem en129 : bH Go.Proofs.Tryz.prog 129 := aY Go.Proofs.Tryz.func129 (by kernel_rfl) (by kernel_rfl)
theorem en132 : bH Go.Proofs.Tryz.prog 132 := aY Go.Proofs.Tryz.func132 (by kernel_rfl) (by kernel_rfl)
theorem en133 : bH Go.Proofs.Tryz.prog 133 := aY Go.Proofs.Tryz.func133 (by kernel_rfl) (by kernel_rfl)
theorem lQ : bH Go.Proofs.Tryz.prog 134 := aY Go.Proofs.Tryz.func134 (by kernel_rfl) (by kernel_rfl)
theorem en136 : bH Go.Proofs.Tryz.prog 136 := aY Go.Proofs.Tryz.func136 (by kernel_rfl) (by kernel_rfl)
theorem en137 : bH Go.Proofs.Tryz.prog 137 := aY Go.Proofs.Tryz.func137 (by kernel_rfl) (by kernel_rfl)
theorem en138 : bH Go.Proofs.Tryz.prog 138 := aY Go.Proofs.Tryz.func138 (by kernel_rfl) (by kernel_rfl)
theorem en152 : bH Go.Proofs.Tryz.prog 152 := aY Go.Proofs.Tryz.func152 (by kernel_rfl) (by kernel_rfl)
theorem vS : bH Go.Proofs.Tryz.prog 165 := aY Go.Proofs.Tryz.func165 (by kernel_rfl) (by kernel_rfl)
theorem yP : bH Go.Proofs.Tryz.prog 166 := aY Go.Proofs.Tryz.func166 (by kernel_rfl) (by kernel_rfl)
theorem aBj : bH Go.Proofs.Tryz.prog 167 := aY Go.Proofs.Tryz.func167 (by kernel_rfl) (by kernel_rfl)
theorem en168 : bH Go.Proofs.Tryz.prog 168 := aY Go.Proofs.Tryz.func168 (by kernel_rfl) (by kernel_rfl)
theorem en169 : bH Go.Proofs.Tryz.prog 169 := aY Go.Proofs.Tryz.func169 (by kernel_rfl) (by kernel_rfl)
theorem en170 : bH Go.Proofs.Tryz.prog 170 := aY Go.Proofs.Tryz.func170 (by kernel_rfl) (by kernel_rfl)
theorem en171 : bH Go.Proofs.Tryz.prog 171 := aY Go.Proofs.Tryz.func171 (by kernel_rfl) (by kernel_rfl)
theorem lL : bH Go.Proofs.Tryz.prog 172 := aY Go.Proofs.Tryz.func172 (by kernel_rfl) (by kernel_rfl)
theorem en173 : bH Go.Proofs.Tryz.prog 173 := aY Go.Proofs.Tryz.func173 (by kernel_rfl) (by kernel_rfl)
theorem en174 : bH Go.Proofs.Tryz.prog 174 := aY Go.Proofs.Tryz.func174 (by kernel_rfl) (by kernel_rfl)
theorem en175 : bH Go.Proofs.Tryz.prog 175 := aY Go.Proofs.Tryz.func175 (by kernel_rfl) (by kernel_rfl)
theorem uE : bH Go.Proofs.Tryz.prog 176 := aY Go.Proofs.Tryz.func176 (by kernel_rfl) (by kernel_rfl)
theorem en177 : bH Go.Proofs.Tryz.prog 177 := aY Go.Proofs.Tryz.func177 (by kernel_rfl) (by kernel_rfl)
theorem en178 : bH Go.Proofs.Tryz.prog 178 := aY Go.Proofs.Tryz.func178 (by kernel_rfl) (by kernel_rfl)
theorem en179 : bH Go.Proofs.Tryz.prog 179 := aY Go.Proofs.Tryz.func179 (by kernel_rfl) (by kernel_rfl)
theorem en180 : bH Go.Proofs.Tryz.prog 180 := aY Go.Proofs.Tryz.func180 (by kernel_rfl) (by kernel_rfl)
theorem en181 : bH Go.Proofs.Tryz.prog 181 := aY Go.Proofs.Tryz.func181 (by kernel_rfl) (by kernel_rfl)
theorem aBi : bH Go.Proofs.Tryz.prog 182 := aY Go.Proofs.Tryz.func182 (by kernel_rfl) (by kernel_rfl)
theorem en183 : bH Go.Proofs.Tryz.prog 183 := aY Go.Proofs.Tryz.func183 (by kernel_rfl) (by kernel_rfl)
theorem en184 : bH Go.Proofs.Tryz.prog 184 := aY Go.Proofs.Tryz.func184 (by kernel_rfl) (by kernel_rfl)
theorem en185 : bH Go.Proofs.Tryz.prog 185 := aY Go.Proofs.Tryz.func185 (by kernel_rfl) (by kernel_rfl)
theorem en186 : bH Go.Proofs.Tryz.prog 186 := aY Go.Proofs.Tryz.func186 (by kernel_rfl) (by kernel_rfl)
theorem yO : bH Go.Proofs.Tryz.prog 187 := aY Go.Proofs.Tryz.func187 (by kernel_rfl) (by kernel_rfl)
theorem en188 : bH Go.Proofs.Tryz.prog 188 := aY Go.Proofs.Tryz.func188 (by kernel_rfl) (by kernel_rfl)
theorem en199 : bH Go.Proofs.Tryz.prog 199 := aY Go.Proofs.Tryz.func199 (by kernel_rfl) (by kernel_rfl)
theorem en208 : bH Go.Proofs.Tryz.prog 208 := aY Go.Proofs.Tryz.func208 (by kernel_rfl) (by kernel_rfl)
theorem en209 : bH Go.Proofs.Tryz.prog 209 := aY Go.Proofs.Tryz.func209 (by kernel_rfl) (by kernel_rfl)
theorem en210 : bH Go.Proofs.Tryz.prog 210 := aY Go.Proofs.Tryz.func210 (by kernel_rfl) (by kernel_rfl)
theorem en211 : bH Go.Proofs.Tryz.prog 211 := aY Go.Proofs.Tryz.func211 (by kernel_rfl) (by kernel_rfl)
theorem en212 : bH Go.Proofs.Tryz.prog 212 := aY Go.Proofs.Tryz.func212 (by kernel_rfl) (by kernel_rfl)
theorem yN : bH Go.Proofs.Tryz.prog 218 := aY Go.Proofs.Tryz.func218 (by kernel_rfl) (by kernel_rfl)
theorem en219 : bH Go.Proofs.Tryz.prog 219 := aY Go.Proofs.Tryz.func219 (by kernel_rfl) (by kernel_rfl)
theorem en220 : bH Go.Proofs.Tryz.prog 220 := aY Go.Proofs.Tryz.func220 (by kernel_rfl) (by kernel_rfl)
theorem en221 : bH Go.Proofs.Tryz.prog 221 := aY Go.Proofs.Tryz.func221 (by kernel_rfl) (by kernel_rfl)
theorem en224 : bH Go.Proofs.Tryz.prog 224 := aY Go.Proofs.Tryz.func224 (by kernel_rfl) (by kernel_rfl)
theorem en225 : bH Go.Proofs.Tryz.prog 225 := aY Go.Proofs.Tryz.func225 (by kernel_rfl) (by kernel_rfl)
theorem en226 : bH Go.Proofs.Tryz.prog 226 := aY Go.Proofs.Tryz.func226 (by kernel_rfl) (by kernel_rfl)
theorem en227 : bH Go.Proofs.Tryz.prog 227 := aY Go.Proofs.Tryz.func227 (by kernel_rfl) (by kernel_rfl)
theorem en228 : bH Go.Proofs.Tryz.prog 228 := aY Go.Proofs.Tryz.func228 (by kernel_rfl) (by kernel_rfl)
theorem en229 : bH Go.Proofs.Tryz.prog 229 := aY Go.Proofs.Tryz.func229 (by kernel_rfl) (by kernel_rfl)
theorem en230 : bH Go.Proofs.Tryz.prog 230 := aY Go.Proofs.Tryz.func230 (by kernel_rfl) (by kernel_rfl)
theorem en231 : bH Go.Proofs.Tryz.prog 231 := aY Go.Proofs.Tryz.func231 (by kernel_rfl) (by kernel_rfl)
theorem en232 : bH Go.Proofs.Tryz.prog 232 := aY Go.Proofs.Tryz.func232 (by kernel_rfl) (by kernel_rfl)
theorem en241 : bH Go.Proofs.Tryz.prog 241 := aY Go.Proofs.Tryz.func241 (by kernel_rfl) (by kernel_rfl)
theorem en243 : bH Go.Proofs.Tryz.prog 243 := aY Go.Proofs.Tryz.func243 (by kernel_rfl) (by kernel_rfl)
theorem en244 : bH Go.Proofs.Tryz.prog 244 := aY Go.Proofs.Tryz.func244 (by kernel_rfl) (by kernel_rfl)
theorem en245 : bH Go.Proofs.Tryz.prog 245 := aY Go.Proofs.Tryz.func245 (by kernel_rfl) (by kernel_rfl)
theorem en246 : bH Go.Proofs.Tryz.prog 246 := aY Go.Proofs.Tryz.func246 (by kernel_rfl) (by kernel_rfl)
theorem en247 : bH Go.Proofs.Tryz.prog 247 := aY Go.Proofs.Tryz.func247 (by kernel_rfl) (by kernel_rfl)
theorem en258 : bH Go.Proofs.Tryz.prog 258 := aY Go.Proofs.Tryz.func258 (by kernel_rfl) (by kernel_rfl)
theorem en260 : bH Go.Proofs.Tryz.prog 260 := aY Go.Proofs.Tryz.func260 (by kernel_rfl) (by kernel_rfl)
theorem en261 : bH Go.Proofs.Tryz.prog 261 := aY Go.Proofs.Tryz.func261 (by kernel_rfl) (by kernel_rfl)
theorem en262 : bH Go.Proofs.Tryz.prog 262 := aY Go.Proofs.Tryz.func262 (by kernel_rfl) (by kernel_rfl)
theorem en266 : bH Go.Proofs.Tryz.prog 266 := aY Go.Proofs.Tryz.func266 (by kernel_rfl) (by kernel_rfl)
theorem en267 : bH Go.Proofs.Tryz.prog 267 := aY Go.Proofs.Tryz.func267 (by kernel_rfl) (by kernel_rfl)
theorem en268 : bH Go.Proofs.Tryz.prog 268 := aY Go.Proofs.Tryz.func268 (by kernel_rfl) (by kernel_rfl)
theorem en277 : bH Go.Proofs.Tryz.prog 277 := aY Go.Proofs.Tryz.func277 (by kernel_rfl) (by kernel_rfl)
theorem en281 : bH Go.Proofs.Tryz.prog 281 := aY Go.Proofs.Tryz.func281 (by kernel_rfl) (by kernel_rfl)
end Go.Eng
end
section
namespace Go.Eng
open Go.ChangeShapes Go.WideShapes Go.ChangeAt Go.RowKit
set_option linter.unusedVariables false
def Reads {α : Type} (H : Type) (enc : TypeId × Value → H) (P : Program) (W : World) (t : TypeId) (d : Ty α) : Prop :=
  ∀ (fuel : Nat) (cs : List Value) (x : DataW H × List MemPlace), DataW.trod enc P W 0 (fun _ => true) true fuel t cs = some x → ∃ y : α, d.rep All W cs y
section
variable {H : Type} {enc : TypeId × Value → H} {P : Program} {W : World} {α : Type}
theorem wf_inK {k : IntKind} {n : Int} (h : (Lit.int k n).wf = true) : inK k n := by
  simp only [Lit.wf, Bool.and_eq_true, decide_eq_true_eq] at h
  unfold inK
  cases k <;> simp_all [IntKind.min, IntKind.max, IntKind.bits, IntKind.signed] <;> omega
theorem reads_int {t : TypeId} {k : IntKind} (ht : P.underlying t = some (.int k)) : Reads H enc P W t (tInt k) := by
  intro fuel cs x h
  obtain ⟨n, rfl, _, hw⟩ := DataW.trod_int ht h
  exact ⟨n, rfl, wf_inK hw⟩
end
end Go.Eng
end
section
namespace Go.Eng
open Go.RowKit
section
variable {P : Program} {f : FuncId} {ro : Option Nat} {n : Nat} {R : Value → World → Prop} {k : List Item} {ds : List Deferred} {env env0 : Env} {w w' : World}
variable {ops : Array Oper} {T : List Nat} {X : Nat → Prop} {D : List (Nat × Value)} {σ σ' : List (Nat × Bool)} {τ : List Nat}
def JDH (P : Program) (f : FuncId) (ro : Option Nat) (n : Nat) (R : Value → World → Prop) (ops : Array Oper) (T : List Nat) (X : Nat → Prop) (σ : List (Nat × Bool)) (τ : List Nat) (D : List (Nat × Value)) (env0 : Env) (k : List Item) (ds : List Deferred) (env : Env) (w : World) (j : Nat) : Prop :=
  kA ops T = true → fC ops T = true → planOk ops.size T σ τ (D.map (·.1)) = true → Node ops T n D env0 env → (∀ d, d < ops.size → has T j d = true → d ∈ D.map (·.1)) → j < ops.size → j ∉ D.map (·.1) →
    ∀ r tmps cs, Inv P ops T X n (j :: r) (σ.map (·.1) ++ τ) D env0 tmps w →
      ∃ v w' fr w'', R v w' ∧ Steps P (lone ((base f ro).atR ⟨tmps, ds⟩ (.inRegion ops (j :: r) :: k)) cs w) (lone fr cs w'') ∧ Fin P f ro fr cs w'' v w'
theorem qP {N : Nat} : ∀ {σ : List (Nat × Bool)} {τ D : List Nat}, planOk N T σ τ D = true → ∀ i, i < N → i ∈ D ∨ i ∈ σ.map (·.1) ++ τ
  | [], τ, D, h, i, hi => by
    simp only [planOk, Bool.and_eq_true, List.all_eq_true, List.mem_range, Bool.or_eq_true, List.contains_eq_mem, decide_eq_true_eq] at h
    simpa using h.1 i hi | (x, c) :: σ, τ, D, h, i, hi => by
    have h' := (kF h).2.2.2.2
    rcases qP h' i hi with h1 | h1
    · rcases List.mem_cons.1 h1 with rfl | h1
      · exact .inr (by simp)
      · exact .inl h1
    · exact .inr (List.mem_cons_of_mem _ h1)
theorem mY {N : Nat} : ∀ {τ D : List Nat}, planOk.tailOk N T τ D = true → ∀ i ∈ τ, i ∉ D
  | [], _, _, i, hi => by cases hi
  | x :: τ, D, h, i, hi => by
    simp only [planOk.tailOk, Bool.and_eq_true, Bool.not_eq_true', List.contains_eq_mem, decide_eq_false_iff_not] at h
    rcases List.mem_cons.1 hi with rfl | hi
    · exact h.1.1.2
    · exact fun hd => mY h.2 i hi (List.mem_cons_of_mem _ hd)
theorem qO {N : Nat} : ∀ {σ : List (Nat × Bool)} {τ D : List Nat}, planOk N T σ τ D = true → ∀ i ∈ σ.map (·.1) ++ τ, i ∉ D
  | [], τ, D, h, i, hi => by
    simp only [planOk, Bool.and_eq_true] at h
    exact mY h.2 i (by simpa using hi) | (x, c) :: σ, τ, D, h, i, hi => by
    obtain ⟨_, h2, _, _, h'⟩ := kF h
    simp only [List.map_cons, List.cons_append, List.mem_cons] at hi
    rcases hi with rfl | hi
    · exact h2
    · exact fun hd => qO h' i hi (List.mem_cons_of_mem _ hd)
def cand (N : Nat) (T : List Nat) (l D : List Nat) : List Nat := l.filter fun j => Nat.blt j N && !D.contains j && (List.range N).all fun d => !has T j d || D.contains d
theorem aCj (hne : (σ.map (·.1) ++ τ).isEmpty = false) (h : ∀ j ∈ cand ops.size T (σ.map (·.1) ++ τ) (D.map (·.1)), JDH P f ro n R ops T X σ τ D env0 k ds env w j) : JD P f ro n R ops T X σ τ D env0 k ds env w := by
  intro hT hN hp nd l tmps cs hI
  obtain ⟨l', tmps1, hl', hI1, hs1⟩ := Inv.flush (f := f) (ro := ro) (ds := ds) (k := k) hT hN nd hI cs
  rcases hl' with rfl | ⟨j, r, rfl, hj⟩
  · exfalso
    cases hl : σ.map (·.1) ++ τ with
    | nil => rw [hl] at hne; cases hne
    | cons x xs => have := hI1.rest x (by rw [hl]; simp); simp at this
  · have hjl := (hI1.part j List.mem_cons_self).1
    have hnot : j ∉ r := (List.nodup_cons.1 hI1.nodup).1
    have hdeps : ∀ d, d < ops.size → has T j d = true → d ∈ D.map (·.1) := by
      intro d hd hh
      rcases qP hp d hd with h1 | h1
      · exact h1
      · exfalso
        rcases List.mem_cons.1 (hI1.rest d h1) with rfl | h2
        · have := qS hT (d + 1) d (by omega) hd d hh; omega
        · have := (List.pairwise_cons.1 hI1.lin).1 d h2
          rw [hh] at this; cases this
    have hjD : j ∉ D.map (·.1) := qO hp j hj
    obtain ⟨v', w', fr, w'', hR, hs', hf⟩ := h j (by
      simp only [cand, List.mem_filter, Bool.and_eq_true, Nat.blt_eq, Bool.not_eq_true', List.contains_eq_mem, decide_eq_false_iff_not, List.all_eq_true, List.mem_range, Bool.or_eq_true, decide_eq_true_eq]
      refine ⟨hj, ⟨hjl, hjD⟩, fun d hd => ?_⟩
      cases hh : has T j d with
      | false => exact .inl rfl
      | true => exact .inr (hdeps d hd hh)) hT hN hp nd hdeps hjl hjD r tmps1 cs hI1
    exact ⟨v', w', fr, w'', hR, hs1.trans hs', hf⟩
theorem xL {i : Nat} {o : Oper} {S : Value → World → Prop} (hp' : planOk ops.size T σ' τ (i :: D.map (·.1)) = true) (hm1 : (σ.map (·.1) ++ τ).all (fun x => x == i || (σ'.map (·.1) ++ τ).contains x) = true)
    (hm2 : (σ'.map (·.1) ++ τ).all (fun x => x != i && (σ.map (·.1) ++ τ).contains x) = true) (ho : ops[i]? = some o) (h : OpG P ops env o w S) (hS : ∀ v w', S v w' → Rl X w w') (hnd : cG o.op = true)
    (hk : ∀ v w', S v w' → JD P f ro n R ops T X σ' τ ((i, v) :: D) env0 k ds (put env o.dst v) w') : JDH P f ro n R ops T X σ τ D env0 k ds env w i := by
  intro hT hN hp nd hdeps hil hD r tmps1 cs hI1
  have hm := Inv.matches hT hI1 rfl ho (nd.reads hN ho hD hdeps)
  obtain ⟨v, w2, hSv, hst⟩ := OpG.step (f := f) (ro := ro) (ds := ds) (k := k) (l := r) ho hnd h hm cs
  have hE := hS v w2 hSv
  have hnot : i ∉ r := (List.nodup_cons.1 hI1.nodup).1
  have nd' := nd.more (u := v) ho hD hdeps
  have hlt : ∀ t, o.dst = some t → t < tmps1.size := by rw [hI1.size]; exact iT (nd.dst i o ho)
  simp only [List.all_eq_true, Bool.or_eq_true, Bool.and_eq_true, beq_iff_eq, bne_iff_ne, List.contains_eq_mem, decide_eq_true_eq] at hm1 hm2
  have hI2 : Inv P ops T X n r (σ'.map (·.1) ++ τ) ((i, v) :: D) env0 (Act.put ⟨tmps1, []⟩ o.dst v).tmps w2 := by
   refine ⟨(List.pairwise_cons.1 hI1.lin).2, (List.nodup_cons.1 hI1.nodup).2, fun j hj => ⟨(hI1.part j (List.mem_cons_of_mem _ hj)).1, ?_⟩, fun j hj => ?_,
     fun j hjl hj d hd hdl => ?_, by rw [iN]; exact hI1.size, rP hN nd'.keys ho hnot List.mem_cons_self hlt (fun t u htv => hI1.tm t u ?_), fun j x hj hjl => ?_⟩
   · rcases (hI1.part j (List.mem_cons_of_mem _ hj)).2 with h1 | h1
     · rcases hm1 j h1 with rfl | h2
       · exact absurd hj hnot
       · exact .inl h2
     · exact .inr (List.mem_cons_of_mem _ h1)
   · obtain ⟨h1, h2⟩ := hm2 j hj
     rcases List.mem_cons.1 (hI1.rest j h2) with h3 | h3
     · exact absurd h3 h1
     · exact h3
   · by_cases hji : j = i
     · subst hji; have := (List.pairwise_cons.1 hI1.lin).1 d hdl; rw [hd] at this; cases this
     · exact hI1.closed j hjl (fun hm => by rcases List.mem_cons.1 hm with h | h; exact hji h; exact hj h) d hd (List.mem_cons_of_mem _ hdl)
   · rcases htv with ⟨j, hj, hjl, hjd⟩ | h1
     · rcases List.mem_cons.1 hj with e | hj
       · cases e; exact absurd List.mem_cons_self hjl
       · exact .inl ⟨j, hj, hjl, hjd⟩
     · exact .inr h1
   · rcases List.mem_cons.1 hj with e | hj
     · cases e; exact absurd hjl hnot
     · exact ((hI1.pend j x hj (List.mem_cons_of_mem _ hjl)).ext hE).more _
  obtain ⟨v', w', fr, w'', hR, hs', hf⟩ := hk v w2 hSv hT hN hp' nd' r _ cs hI2
  exact ⟨v', w', fr, w'', hR, hst.trans hs', hf⟩
def AllL (p : Nat → Prop) : List Nat → Prop
  | [] => True
  | x :: xs => p x ∧ AllL p xs
theorem AllL.mem {p : Nat → Prop} : ∀ {l : List Nat}, AllL p l → ∀ j ∈ l, p j
  | x :: xs, h, j, hj => by
    rcases List.mem_cons.1 hj with rfl | hj
    · exact h.1
    · exact AllL.mem h.2 j hj
theorem JD_any (hne : (σ.map (·.1) ++ τ).isEmpty = false) (h : AllL (JDH P f ro n R ops T X σ τ D env0 k ds env w) (cand ops.size T (σ.map (·.1) ++ τ) (D.map (·.1)))) : JD P f ro n R ops T X σ τ D env0 k ds env w := aCj hne h.mem
end
class Take (L : List HP) (c : HP) (L' : outParam (List HP)) : Prop where h : L.Perm (c :: L')
instance (priority := low) Take.tail {L L' : List HP} {c d : HP} [t : Take L c L'] : Take (d :: L) c (d :: L') := ⟨(List.Perm.cons d t.h).trans (List.Perm.swap c d L')⟩
instance Take.head {L : List HP} {c : HP} : Take (c :: L) c L := ⟨List.Perm.refl _⟩
end Go.Eng
end
section
namespace Go.Eng
open Go.RowKit
structure AE where
  i : Nat
  t : Nat
  obj : Obj
  val : Nat → Value
def AE.ch (x : AE × Nat) : HP := Blk x.2 x.1.obj
def AE.tell (x : AE × Nat) : Nat × Value := (x.1.i, x.1.val x.2)
section
variable {P : Program} {f : FuncId} {ro : Option Nat} {n : Nat} {R : Value → World → Prop} {k : List Item} {ds : List Deferred} {env env0 : Env} {w0 w w' : World} {F : Nat → Prop}
variable {ops : Array Oper} {T : List Nat} {X Z : Nat → Prop} {N0 : Nat} {C0 : List HP} {D D' : List (Nat × Value)} {τ : List Nat}
def ReadsAt (ops : Array Oper) (T : List Nat) (D : List (Nat × Value)) (env0 : Env) (i : Nat) (o : Oper) (e : Env) : Prop :=
  ∀ t v, t ∈ vH ops o → Env.get e t = some v → (∃ j, (j, v) ∈ D ∧ gJ ops j = some t ∧ has T i j = true) ∨ ((∀ j, gJ ops j = some t → j = i ∨ has T j i = true) ∧ Env.get env0 t = some v)
theorem ReadsAt.more {i : Nat} {o : Oper} {e : Env} (h : ReadsAt ops T D env0 i o e) (hD : ∀ x ∈ D, x ∈ D') : ReadsAt ops T D' env0 i o e :=
  fun t v ht hv => (h t v ht hv).imp (fun ⟨j, a, b⟩ => ⟨j, hD _ a, b⟩) id
def PendA (P : Program) (ops : Array Oper) (T : List Nat) (w0 : World) (F : Nat → Prop) (D : List (Nat × Value)) (env0 : Env) (a : AE) : Prop :=
  ∃ o e, ops[a.i]? = some o ∧ cG o.op = true ∧ o.dst = some a.t ∧ ReadsAt ops T D env0 a.i o e ∧ (∀ d, d < ops.size → has T a.i d = true → d ∈ D.map (·.1)) ∧
    ∀ W L, St w0 F W L → OpG P ops e o W (qG w0 F W L a.obj a.val)
theorem PendA.more {a : AE} (h : PendA P ops T w0 F D env0 a) (hD : ∀ x ∈ D, x ∈ D') : PendA P ops T w0 F D' env0 a :=
  let ⟨o, e, h1, h2, h3, h4, h5, h6⟩ := h; ⟨o, e, h1, h2, h3, h4.more hD, fun d hd hh => by
    obtain ⟨x, hx, rfl⟩ := List.mem_map.1 (h5 d hd hh); exact List.mem_map.2 ⟨x, hD x hx, rfl⟩, h6⟩
def JC (P : Program) (f : FuncId) (ro : Option Nat) (n : Nat) (R : Value → World → Prop) (ops : Array Oper) (T : List Nat) (Z : Nat → Prop) (todo : List Nat) (D : List (Nat × Value)) (env0 : Env) (k : List Item) (ds : List Deferred) (w : World) (l : List Nat) : Prop :=
  ∀ tmps cs, Inv P ops T Z n l todo D env0 tmps w →
      ∃ v w' fr w'', R v w' ∧ Steps P (lone ((base f ro).atR ⟨tmps, ds⟩ (.inRegion ops l :: k)) cs w) (lone fr cs w'') ∧ Fin P f ro fr cs w'' v w'
theorem Inv.same {l : List Nat} {σ σ' : List Nat} {tmps : Array Value} (h : Inv P ops T X n l σ D env0 tmps w) (hσ : ∀ i, i ∈ σ ↔ i ∈ σ') (hD : ∀ x, x ∈ D ↔ x ∈ D') : Inv P ops T X n l σ' D' env0 tmps w := by
  have hk : ∀ i, i ∈ D.map (·.1) ↔ i ∈ D'.map (·.1) := fun i => by
    constructor
    · intro h; obtain ⟨x, hx, rfl⟩ := List.mem_map.1 h; exact List.mem_map.2 ⟨x, (hD x).1 hx, rfl⟩
    · intro h; obtain ⟨x, hx, rfl⟩ := List.mem_map.1 h; exact List.mem_map.2 ⟨x, (hD x).2 hx, rfl⟩
  refine ⟨h.lin, h.nodup, fun i hi => ⟨(h.part i hi).1, (h.part i hi).2.imp (hσ i).1 (hk i).1⟩, fun i hi => h.rest i ((hσ i).2 hi), h.closed, h.size, fun t v htv => h.tm t v ?_, fun i u hi hl => ?_⟩
  · exact htv.imp (fun ⟨i, h1, h2⟩ => ⟨i, (hD _).2 h1, h2⟩) id
  · obtain ⟨o, e, a, b, c, d⟩ := h.pend i u ((hD _).2 hi) hl
    exact ⟨o, e, a, b, fun t v ht hv => (c t v ht hv).imp (fun ⟨j, h1, h2⟩ => ⟨j, (hD _).1 h1, h2⟩) id, d⟩
theorem JC.same {σ σ' l : List Nat} (h : JC P f ro n R ops T Z σ D env0 k ds w l) (hσ : ∀ i, i ∈ σ ↔ i ∈ σ') (hD : ∀ x, x ∈ D ↔ x ∈ D') : JC P f ro n R ops T Z σ' D' env0 k ds w l :=
  fun tmps cs hI => h tmps cs (hI.same (fun i => (hσ i).symm) (fun x => (hD x).symm))
theorem Inv.exec {o : Oper} {i : Nat} {r todo todo' : List Nat} {tmps : Array Value} {S : Value → World → Prop} {e : Env} (hT : kA ops T = true) (hN : fC ops T = true) (hdst : ∀ (i : Nat) (o : Oper), ops[i]? = some o → mQ n o = true) (hkeys : (D.map (·.1)).Nodup) (hiD : i ∉ D.map (·.1))
    (hI : Inv P ops T Z n (i :: r) todo D env0 tmps w) (ho : ops[i]? = some o) (hr : ReadsAt ops T D env0 i o e) (hnd : cG o.op = true) (h : OpG P ops e o w S) (hS : ∀ v w', S v w' → Rl Z w w')
    (h1 : ∀ j ∈ todo, j = i ∨ j ∈ todo') (h2 : ∀ j ∈ todo', j ≠ i ∧ j ∈ todo) (cs : List Frame) :
    ∃ v w2 tmps', S v w2 ∧ Inv P ops T Z n r todo' ((i, v) :: D) env0 tmps' w2 ∧ Steps P (lone ((base f ro).atR ⟨tmps, ds⟩ (.inRegion ops (i :: r) :: k)) cs w) (lone ((base f ro).atR ⟨tmps', ds⟩ (.inRegion ops r :: k)) cs w2) := by
  have hm := Inv.matches hT hI rfl ho hr
  obtain ⟨v, w2, hSv, hst⟩ := OpG.step (f := f) (ro := ro) (ds := ds) (k := k) (l := r) ho hnd h hm cs
  have hE := hS v w2 hSv
  have hnot : i ∉ r := (List.nodup_cons.1 hI.nodup).1
  have hlt : ∀ t, o.dst = some t → t < tmps.size := by rw [hI.size]; exact iT (hdst i o ho)
  refine ⟨v, w2, _, hSv, ?_, hst⟩
  refine ⟨(List.pairwise_cons.1 hI.lin).2, (List.nodup_cons.1 hI.nodup).2, fun j hj => ⟨(hI.part j (List.mem_cons_of_mem _ hj)).1, ?_⟩, fun j hj => ?_,
     fun j hjl hj d hd hdl => ?_, by rw [iN]; exact hI.size, rP hN (by simp only [List.map_cons, List.nodup_cons]; exact ⟨hiD, hkeys⟩) ho hnot List.mem_cons_self hlt (fun t u htv => hI.tm t u ?_), fun j x hj hjl => ?_⟩
  · rcases (hI.part j (List.mem_cons_of_mem _ hj)).2 with h3 | h3
    · rcases h1 j h3 with rfl | h4
      · exact absurd hj hnot
      · exact .inl h4
    · exact .inr (List.mem_cons_of_mem _ h3)
  · obtain ⟨h3, h4⟩ := h2 j hj
    rcases List.mem_cons.1 (hI.rest j h4) with h5 | h5
    · exact absurd h5 h3
    · exact h5
  · by_cases hji : j = i
    · subst hji; have := (List.pairwise_cons.1 hI.lin).1 d hdl; rw [hd] at this; cases this
    · exact hI.closed j hjl (fun hm => by rcases List.mem_cons.1 hm with h | h; exact hji h; exact hj h) d hd (List.mem_cons_of_mem _ hdl)
  · rcases htv with ⟨j, hj, hjl, hjd⟩ | h3
    · rcases List.mem_cons.1 hj with e | hj
      · cases e; exact absurd List.mem_cons_self hjl
      · exact .inl ⟨j, hj, hjl, hjd⟩
    · exact .inr h3
  · rcases List.mem_cons.1 hj with e | hj
    · cases e; exact absurd hjl hnot
    · exact ((hI.pend j x hj (List.mem_cons_of_mem _ hjl)).ext hE).more _
theorem nodeE {A : List AE} (hN : fC ops T = true) (nd : Node ops T n D env0 env) (hp : ∀ a ∈ A, PendA P ops T w0 F D env0 a) : ∀ {E : List (AE × Nat)}, (∀ x ∈ E, x.1 ∈ A) → (E.map (fun x => x.1.i)).Nodup → (∀ x ∈ E, x.1.i ∉ D.map (·.1)) →
    ∃ env', Node ops T n (E.map AE.tell ++ D) env0 env'
  | [], _, _, _ => ⟨env, nd⟩
  | x :: E, hA, hn, hd => by
    simp only [List.map_cons, List.nodup_cons] at hn
    obtain ⟨env', nd'⟩ := nodeE hN nd hp (E := E) (fun y hy => hA y (List.mem_cons_of_mem _ hy)) hn.2 (fun y hy => hd y (List.mem_cons_of_mem _ hy))
    obtain ⟨o, e, h1, h2, h3, h4, h5, h6⟩ := hp x.1 (hA x List.mem_cons_self)
    refine ⟨_, nd'.more (i := x.1.i) (u := x.1.val x.2) h1 (fun hm => ?_) (fun d hd' hh => ?_)⟩
    · simp only [List.map_append, List.map_map, List.mem_append, List.mem_map] at hm
      rcases hm with ⟨y, hy, he⟩ | hm
      · exact hn.1 (List.mem_map.2 ⟨y, hy, he⟩)
      · exact hd x List.mem_cons_self (List.mem_map.2 hm)
    · rw [List.map_append]; exact List.mem_append_right _ (h5 d hd' hh)
structure XOk (P : Program) (ops : Array Oper) (T : List Nat) (n : Nat) (w0 : World) (F : Nat → Prop) (A : List AE) (M : List Nat) (D : List (Nat × Value)) (env0 env : Env) : Prop where
  tab : kA ops T = true
  names : fC ops T = true
  node : Node ops T n D env0 env
  pend : ∀ a ∈ A, PendA P ops T w0 F D env0 a
  anod : (A.map (·.i)).Nodup
  aD : ∀ a ∈ A, a.i ∉ D.map (·.1)
  cover : ∀ i, i < ops.size → i ∈ D.map (·.1) ∨ i ∈ M ∨ i ∈ A.map (·.i)
  mD : ∀ i ∈ M, i ∉ D.map (·.1)
  mA : ∀ i ∈ M, i ∉ A.map (·.i)
theorem keysE {E : List (AE × Nat)} {i : Nat} : i ∈ (E.map AE.tell ++ D).map (·.1) ↔ (∃ x ∈ E, x.1.i = i) ∨ i ∈ D.map (·.1) := by
  simp only [List.map_append, List.map_map, List.mem_append, List.mem_map]
  rfl
structure ZOk (w0 : World) (F Z : Nat → Prop) (N0 : Nat) (C0 : List HP) (W : World) : Prop where
  old : ∀ k, k < w0.heap.size → ¬ F k → ¬ Z k
  foot : ∀ c ∈ C0, ∀ k, c.foot k → ¬ Z k
  st : St w0 F W C0
  size : N0 ≤ W.heap.size
theorem ZOk.rl {W W' : World} (h : ZOk w0 F Z N0 C0 W) (r : Rl Z W W') : ZOk w0 F Z N0 C0 W' := by
  refine ⟨h.old, h.foot, ⟨⟨r.os.trans h.st.frm.os, r.tape.trans h.st.frm.tape, r.output.trans h.st.frm.output, Nat.le_trans h.st.frm.size r.size, fun k hk hF => ?_, Nat.le_trans h.st.frm.drawn r.drawn⟩, fun c hc => ?_, fun c hc k hk => ?_, h.st.sep⟩, Nat.le_trans h.size r.size⟩
  · exact (r.old k (Nat.lt_of_lt_of_le hk h.st.frm.size) (h.old k hk hF)).trans (h.st.frm.old k hk hF)
  · exact c.loc W W' (fun k hk => r.old k (h.st.foot c hc k hk).1 (h.foot c hc k hk)) (h.st.all c hc)
  · exact ⟨Nat.lt_of_lt_of_le (h.st.foot c hc k hk).1 r.size, (h.st.foot c hc k hk).2⟩
theorem ZOk.none {W : World} : St w0 F W [] → ZOk w0 F NoF 0 [] W := fun h => ⟨fun _ _ _ h => h, fun _ hc => (nomatch hc), h, Nat.zero_le _⟩
theorem JC_adv {A : List AE} {M : List Nat} {C : List HP} (ok : XOk P ops T n w0 F A M D env0 env)
    (H : ∀ (E : List (AE × Nat)) (rem : List AE), (E.map (·.1) ++ rem).Perm A → ∀ W, St w0 F W (E.map AE.ch ++ C) → ZOk w0 F Z N0 C0 W → ∀ l,
      (l = [] ∧ M = [] ∧ rem = [] ∨ ∃ j r, l = j :: r ∧ j ∈ M ∧ ∀ d, d < ops.size → has T j d = true → d ∈ (E.map AE.tell ++ D).map (·.1)) → JC P f ro n R ops T Z (M ++ rem.map (·.i)) (E.map AE.tell ++ D) env0 k ds W l) :
    ∀ (m : Nat) (E : List (AE × Nat)) (rem : List AE), rem.length = m → (E.map (·.1) ++ rem).Perm A → ∀ W, St w0 F W (E.map AE.ch ++ C) → ZOk w0 F Z N0 C0 W → ∀ l, JC P f ro n R ops T Z (M ++ rem.map (·.i)) (E.map AE.tell ++ D) env0 k ds W l := by
  intro m
  induction m using Nat.strongRecOn with
  | _ m ih =>
    intro E rem hm hp W hs hz l tmps cs hI
    have hmem : ∀ a, a ∈ A ↔ (∃ x ∈ E, x.1 = a) ∨ a ∈ rem := fun a => by
      rw [← hp.mem_iff, List.mem_append, List.mem_map]
    have hnod : ((E.map (·.1) ++ rem).map (·.i)).Nodup := (hp.map _).nodup_iff.2 ok.anod
    rw [List.map_append, List.map_map] at hnod
    obtain ⟨hn1, hn2, hn3⟩ := List.nodup_append.1 hnod
    obtain ⟨env', nd⟩ := nodeE ok.names ok.node ok.pend (E := E) (fun x hx => (hmem _).2 (.inl ⟨x, hx, rfl⟩)) hn1 (fun x hx => ok.aD _ ((hmem _).2 (.inl ⟨x, hx, rfl⟩)))
    obtain ⟨l', tmps1, hl', hI1, hs1⟩ := Inv.flush (f := f) (ro := ro) (ds := ds) (k := k) ok.tab ok.names nd hI cs
    have hdeps : ∀ j r, l' = j :: r → ∀ d, d < ops.size → has T j d = true → d ∈ (E.map AE.tell ++ D).map (·.1) := by
      intro j r hl d hd hh
      subst hl
      have hnot : d ∉ M ++ rem.map (·.i) := fun h1 => by
        rcases List.mem_cons.1 (hI1.rest d h1) with rfl | h2
        · have := qS ok.tab (d + 1) d (by omega) hd d hh; omega
        · have := (List.pairwise_cons.1 hI1.lin).1 d h2
          rw [hh] at this; cases this
      rcases ok.cover d hd with h1 | h1 | h1
      · exact keysE.2 (.inr h1)
      · exact absurd (List.mem_append_left _ h1) hnot
      · obtain ⟨a, ha, rfl⟩ := List.mem_map.1 h1
        rcases (hmem a).1 ha with ⟨x, hx, rfl⟩ | h2
        · exact keysE.2 (.inl ⟨x, hx, rfl⟩)
        · exact absurd (List.mem_append_right _ (List.mem_map.2 ⟨a, h2, rfl⟩)) hnot
    rcases hl' with rfl | ⟨j, r, rfl, hj⟩
    · have hnone : ∀ i, i ∉ M ++ rem.map (·.i) := fun i hi => by have := hI1.rest i hi; simp at this
      have e1 : M = [] := List.eq_nil_iff_forall_not_mem.2 (fun i hi => hnone i (List.mem_append_left _ hi))
      have e2 : rem = [] := List.eq_nil_iff_forall_not_mem.2 (fun a ha => hnone a.i (List.mem_append_right _ (List.mem_map.2 ⟨a, ha, rfl⟩)))
      obtain ⟨v', w', fr, w'', hR, hs', hf⟩ := H E rem hp W hs hz [] (.inl ⟨rfl, e1, e2⟩) tmps1 cs hI1
      exact ⟨v', w', fr, w'', hR, hs1.trans hs', hf⟩
    · by_cases hjM : j ∈ M
      · obtain ⟨v', w', fr, w'', hR, hs', hf⟩ := H E rem hp W hs hz (j :: r) (.inr ⟨j, r, rfl, hjM, hdeps j r rfl⟩) tmps1 cs hI1
        exact ⟨v', w', fr, w'', hR, hs1.trans hs', hf⟩
      · obtain ⟨a, ha, rfl⟩ := List.mem_map.1 ((List.mem_append.1 hj).resolve_left hjM)
        obtain ⟨rem1, rem2, rfl⟩ := List.append_of_mem ha
        have haA : a ∈ A := (hmem a).2 (.inr ha)
        obtain ⟨o, e, ho, hnd, hdst, hr, hd5, hG⟩ := ok.pend a haA
        have hp' : ∀ b, (((a, b) :: E).map (·.1) ++ (rem1 ++ rem2)).Perm A := fun b => by
          refine List.Perm.trans ?_ hp
          simp only [List.map_cons, List.cons_append]
          rw [← List.append_assoc, ← List.append_assoc]
          exact (List.perm_middle (l₁ := E.map (·.1) ++ rem1) (l₂ := rem2) (a := a)).symm
        have hi1 : a.i ∉ (E.map AE.tell ++ D).map (·.1) := fun h => by
          rcases keysE.1 h with ⟨x, hx, he⟩ | h
          · exact hn3 _ (List.mem_map.2 ⟨x, hx, rfl⟩) _ (List.mem_map.2 ⟨a, ha, rfl⟩) he
          · exact ok.aD a haA h
        have hirem : ∀ y ∈ rem1 ++ rem2, y.i ≠ a.i := by
          intro y hy he
          rw [List.map_append, List.map_cons, List.nodup_append] at hn2
          obtain ⟨_, h2, h3⟩ := hn2
          rcases List.mem_append.1 hy with hy | hy
          · exact h3 _ (List.mem_map.2 ⟨y, hy, rfl⟩) _ List.mem_cons_self he
          · exact (List.nodup_cons.1 h2).1 (List.mem_map.2 ⟨y, hy, he⟩)
        obtain ⟨v, w2, tmps2, ⟨b, rfl, hb, hs2, hE2⟩, hI2, hs3⟩ := Inv.exec (f := f) (ro := ro) (ds := ds) (k := k) (todo' := M ++ (rem1 ++ rem2).map (·.i)) ok.tab ok.names nd.dst nd.keys hi1 hI1 ho (hr.more (fun x hx => List.mem_append_right _ hx)) hnd (hG W _ hs) (fun v w' ⟨b, _, _, _, h⟩ => h.rl)
          (fun j hj => by
            simp only [List.mem_append, List.map_append, List.map_cons, List.mem_cons] at hj ⊢
            rcases hj with h | h | h | h
            · exact .inr (.inl h)
            · exact .inr (.inr (.inl h))
            · exact .inl h
            · exact .inr (.inr (.inr h)))
          (fun j hj => by
            refine ⟨fun he => ?_, ?_⟩
            · subst he
              rcases List.mem_append.1 hj with h | h
              · exact hjM h
              · obtain ⟨y, hy, he⟩ := List.mem_map.1 h; exact hirem y hy he
            · simp only [List.mem_append, List.map_append, List.map_cons, List.mem_cons] at hj ⊢
              rcases hj with h | h | h
              · exact .inl h
              · exact .inr (.inl h)
              · exact .inr (.inr (.inr h))) cs
        obtain ⟨v', w', fr, w'', hR, hs', hf⟩ := ih (rem1 ++ rem2).length (by rw [← hm]; simp) ((a, b) :: E) (rem1 ++ rem2) rfl (hp' b) w2 hs2 (hz.rl hE2.rl) r tmps2 cs hI2
        exact ⟨v', w', fr, w'', hR, hs1.trans (hs3.trans hs'), hf⟩
def eB : List (Nat × Nat) → List Nat
  | [] => [] | (i, c) :: σ => bif Nat.ble 3 c then eB σ else i :: eB σ
def oW (N : Nat) (T : List Nat) (i : Nat) (D A : List Nat) : Bool := Nat.blt i N && !D.contains i && !A.contains i && (List.range N).all (fun d => !has T i d || D.contains d)
def gB (N : Nat) (T : List Nat) : List (Nat × Nat) → List Nat → List Nat → List Nat → Bool
  | [], τ, D, A => A.isEmpty && (List.range N).all (fun i => D.contains i || τ.contains i) && planOk.tailOk N T τ D | (i, 0) :: σ, τ, D, A => oW N T i D A && gB N T σ τ (i :: D) A | (i, 1) :: σ, τ, D, A => oW N T i D A && (eB σ ++ τ).all (fun x => has T x i) && gB N T σ τ (i :: D) A | (i, 2) :: σ, τ, D, A => oW N T i D A && gB N T σ τ D (i :: A) | (i, _) :: σ, τ, D, A => !D.contains i && A.contains i && (eB σ ++ τ).all (fun x => has T x i) && gB N T σ τ (i :: D) (A.erase i)
theorem jA {N i : Nat} {D A : List Nat} (h : oW N T i D A = true) : i < N ∧ i ∉ D ∧ i ∉ A ∧ ∀ d, d < N → has T i d = true → d ∈ D := by
  simp only [oW, Bool.and_eq_true, Bool.not_eq_true', List.contains_eq_mem, decide_eq_false_iff_not, List.all_eq_true, List.mem_range, Bool.or_eq_true, decide_eq_true_eq, Nat.blt_eq] at h
  refine ⟨h.1.1.1, h.1.1.2, h.1.2, fun d hd hh => ?_⟩
  rcases h.2 d hd with h1 | h1
  · rw [hh] at h1; cases h1
  · exact h1
theorem jQ {N : Nat} : ∀ {σ : List (Nat × Nat)} {τ D A : List Nat}, gB N T σ τ D A = true →
    (∀ i, i < N → i ∈ D ∨ i ∈ eB σ ++ τ ∨ i ∈ A) ∧ (∀ i ∈ eB σ ++ τ, i ∉ D ∧ i ∉ A) := by
  intro σ
  induction σ with
  | nil =>
    intro τ D A h
    simp only [gB, Bool.and_eq_true, List.all_eq_true, List.mem_range, Bool.or_eq_true, List.contains_eq_mem, decide_eq_true_eq, List.isEmpty_iff] at h
    obtain ⟨⟨rfl, h1⟩, h2⟩ := h
    refine ⟨fun i hi => (h1 i hi).imp id (fun h => .inl (by simpa [eB] using h)), fun i hi => ⟨mY h2 i (by simpa [eB] using hi), by simp⟩⟩
  | cons x σ ih =>
    intro τ D A h
    obtain ⟨i, c⟩ := x
    have e0 : c < 3 → eB ((i, c) :: σ) = i :: eB σ := fun h => by
      have : Nat.ble 3 c = false := by cases hb : Nat.ble 3 c; rfl; have := Nat.le_of_ble_eq_true hb; omega
      simp [eB, this]
    have tl : ∀ {c}, c < 3 → eB ((i, c) :: σ) = i :: eB σ → oW N T i D A = true → gB N T σ τ (i :: D) A = true → (∀ j, j < N → j ∈ D ∨ j ∈ eB ((i, c) :: σ) ++ τ ∨ j ∈ A) ∧ (∀ j ∈ eB ((i, c) :: σ) ++ τ, j ∉ D ∧ j ∉ A) := by
      intro c _ e hr hp
      obtain ⟨a1, a2⟩ := ih hp
      obtain ⟨_, r1, r2, _⟩ := jA hr
      rw [e]
      refine ⟨fun j hj => ?_, fun j hj => ?_⟩
      · rcases a1 j hj with h1 | h1 | h1
        · rcases List.mem_cons.1 h1 with rfl | h1
          · exact .inr (.inl (by simp))
          · exact .inl h1
        · exact .inr (.inl (List.mem_cons_of_mem _ h1))
        · exact .inr (.inr h1)
      · rcases List.mem_cons.1 hj with rfl | hj
        · exact ⟨r1, r2⟩
        · have := a2 j hj; exact ⟨fun h => this.1 (List.mem_cons_of_mem _ h), this.2⟩
    match c, h, e0 with
    | 0, h, e0 =>
      simp only [gB, Bool.and_eq_true] at h
      exact tl (by omega) (e0 (by omega)) h.1 h.2
    | 1, h, e0 =>
      simp only [gB, Bool.and_eq_true] at h
      exact tl (by omega) (e0 (by omega)) h.1.1 h.2
    | 2, h, e0 =>
      simp only [gB, Bool.and_eq_true] at h
      obtain ⟨a1, a2⟩ := ih h.2
      obtain ⟨_, r1, r2, _⟩ := jA h.1
      rw [e0 (by omega)]
      refine ⟨fun j hj => ?_, fun j hj => ?_⟩
      · rcases a1 j hj with h1 | h1 | h1
        · exact .inl h1
        · exact .inr (.inl (List.mem_cons_of_mem _ h1))
        · rcases List.mem_cons.1 h1 with rfl | h1
          · exact .inr (.inl (by simp))
          · exact .inr (.inr h1)
      · rcases List.mem_cons.1 hj with rfl | hj
        · exact ⟨r1, r2⟩
        · have := a2 j hj; exact ⟨this.1, fun h => this.2 (List.mem_cons_of_mem _ h)⟩
    | c + 3, h, _ =>
      simp only [gB, Bool.and_eq_true, Bool.not_eq_true', List.contains_eq_mem, decide_eq_false_iff_not, decide_eq_true_eq, List.all_eq_true] at h
      obtain ⟨⟨⟨h1, h2⟩, h3⟩, h4⟩ := h
      obtain ⟨a1, a2⟩ := ih h4
      have e : eB ((i, c + 3) :: σ) = eB σ := by
        have : Nat.ble 3 (c + 3) = true := Nat.ble_eq_true_of_le (by omega)
        simp [eB, this]
      rw [e]
      refine ⟨fun j hj => ?_, fun j hj => ?_⟩
      · rcases a1 j hj with h5 | h5 | h5
        · rcases List.mem_cons.1 h5 with rfl | h5
          · exact .inr (.inr h2)
          · exact .inl h5
        · exact .inr (.inl h5)
        · exact .inr (.inr (List.mem_of_mem_erase h5))
      · have h5 := a2 j hj
        refine ⟨fun h => h5.1 (List.mem_cons_of_mem _ h), fun h => ?_⟩
        by_cases he : j = i
        · exact h5.1 (he ▸ List.mem_cons_self)
        · exact h5.2 ((List.mem_erase_of_ne he).2 h)
def JX (P : Program) (f : FuncId) (ro : Option Nat) (n : Nat) (R : Value → World → Prop) (ops : Array Oper) (T : List Nat) (w0 : World) (F Z : Nat → Prop) (N0 : Nat) (C0 : List HP) (A : List AE) (σ : List (Nat × Nat)) (τ : List Nat) (D : List (Nat × Value)) (env0 : Env) (k : List Item) (ds : List Deferred) (env : Env) (C : List HP) : Prop :=
  XOk P ops T n w0 F A (eB σ ++ τ) D env0 env → gB ops.size T σ τ (D.map (·.1)) (A.map (·.i)) = true →
    ∀ (E : List (AE × Nat)) (rem : List AE), (E.map (·.1) ++ rem).Perm A → ∀ W, St w0 F W (E.map AE.ch ++ C) → ZOk w0 F Z N0 C0 W → ∀ l, JC P f ro n R ops T Z ((eB σ ++ τ) ++ rem.map (·.i)) (E.map AE.tell ++ D) env0 k ds W l
def JXat (P : Program) (f : FuncId) (ro : Option Nat) (n : Nat) (R : Value → World → Prop) (ops : Array Oper) (T : List Nat) (w0 : World) (F Z : Nat → Prop) (N0 : Nat) (C0 : List HP) (A : List AE) (σ : List (Nat × Nat)) (τ : List Nat) (D : List (Nat × Value)) (env0 : Env) (k : List Item) (ds : List Deferred) (env : Env) (w' : World) (X : HP) : Prop :=
  XOk P ops T n w0 F A (eB σ ++ τ) D env0 env → gB ops.size T σ τ (D.map (·.1)) (A.map (·.i)) = true →
    ∀ (E : List (AE × Nat)) (rem : List AE), (E.map (·.1) ++ rem).Perm A → X = Star (E.map AE.ch) → ZOk w0 F Z N0 C0 w' → ∀ l, JC P f ro n R ops T Z ((eB σ ++ τ) ++ rem.map (·.i)) (E.map AE.tell ++ D) env0 k ds w' l
theorem St.star {A C : List HP} (h : St w0 F w (A ++ C)) : St w0 F w (Star A :: C) := by
  obtain ⟨h1, h2, h3⟩ := List.pairwise_append.1 h.sep
  refine ⟨h.frm, fun c hc => ?_, fun c hc k hk => ?_, List.pairwise_cons.2 ⟨fun c hc k ⟨a, ha, hk⟩ hck => h3 a ha c hc k hk hck, h2⟩⟩
  · rcases List.mem_cons.1 hc with rfl | hc
    · exact ⟨fun c hc => h.all c (List.mem_append_left _ hc), h1⟩
    · exact h.all c (List.mem_append_right _ hc)
  · rcases List.mem_cons.1 hc with rfl | hc
    · obtain ⟨a, ha, hk⟩ := hk
      exact h.foot a (List.mem_append_left _ ha) k hk
    · exact h.foot c (List.mem_append_right _ hc) k hk
theorem St.unstar {A C : List HP} (h : St w0 F w (Star A :: C)) : St w0 F w (A ++ C) := by
  obtain ⟨h1, h2⟩ := List.pairwise_cons.1 h.sep
  have hh := h.all _ List.mem_cons_self
  refine ⟨h.frm, fun c hc => ?_, fun c hc k hk => ?_, List.pairwise_append.2 ⟨hh.2, h2, fun a ha c hc k hk hck => h1 c hc k ⟨a, ha, hk⟩ hck⟩⟩
  · rcases List.mem_append.1 hc with hc | hc
    · exact hh.1 c hc
    · exact h.all c (List.mem_cons_of_mem _ hc)
  · rcases List.mem_append.1 hc with hc | hc
    · exact h.foot _ List.mem_cons_self k ⟨c, hc, hk⟩
    · exact h.foot c (List.mem_cons_of_mem _ hc) k hk
section
variable {A : List AE} {σ : List (Nat × Nat)} {C : List HP}
theorem JX.at {w' : World} {X : HP} {L : List HP} [t : Take L X C] (hs : St w0 F w' L) (h : JX P f ro n R ops T w0 F Z N0 C0 A σ τ D env0 k ds env C) : JXat P f ro n R ops T w0 F Z N0 C0 A σ τ D env0 k ds env w' X := by
  intro ok hp E rem hper hX hz l
  subst hX
  exact h ok hp E rem hper w' (hs.perm t.h).unstar hz l
theorem XOk.next {σ' : List (Nat × Nat)} {A' : List AE} {env' : Env} {M : List Nat} (ok : XOk P ops T n w0 F A M D env0 env) (hn : Node ops T n D' env0 env') (hpend : ∀ a ∈ A', PendA P ops T w0 F D' env0 a) (hnod : (A'.map (·.i)).Nodup) (haD : ∀ a ∈ A', a.i ∉ D'.map (·.1))
    (hp : gB ops.size T σ' τ (D'.map (·.1)) (A'.map (·.i)) = true) : XOk P ops T n w0 F A' (eB σ' ++ τ) D' env0 env' :=
  ⟨ok.tab, ok.names, hn, hpend, hnod, haD, (jQ hp).1, fun i hi => ((jQ hp).2 i hi).1, fun i hi => ((jQ hp).2 i hi).2⟩
theorem XOk.tell {i : Nat} {o : Oper} {u : Value} {M : List Nat} (ok : XOk P ops T n w0 F A M D env0 env) (hr : oW ops.size T i (D.map (·.1)) (A.map (·.i)) = true) (ho : ops[i]? = some o) (hp : gB ops.size T σ τ (i :: D.map (·.1)) (A.map (·.i)) = true) :
    XOk P ops T n w0 F A (eB σ ++ τ) ((i, u) :: D) env0 (put env o.dst u) := by
  obtain ⟨_, r1, r2, r3⟩ := jA hr
  exact ok.next (ok.node.more ho r1 r3) (fun a ha => (ok.pend a ha).more (fun x hx => List.mem_cons_of_mem _ hx)) ok.anod (fun a ha h => by
    rcases List.mem_cons.1 h with h | h
    · exact r2 (List.mem_map.2 ⟨a, ha, h⟩)
    · exact ok.aD a ha h) hp
theorem JX_start (hok : XOk P ops T n w0 F [] (eB σ ++ τ) [] env env) (hp : gB ops.size T σ τ [] [] = true) (hs : St w0 F w C) (hz : ZOk w0 F Z N0 C0 w) (h : JX P f ro n R ops T w0 F Z N0 C0 [] σ τ [] env k ds env C) (l : List Nat) : JC P f ro n R ops T Z (eB σ ++ τ) [] env k ds w l := by
  have := h hok hp [] [] (List.Perm.refl _) w hs hz l
  simpa using this
theorem uZ {i : Nat} {o : Oper} {u : Value} (ho : ops[i]? = some o) (hnd : cG o.op = true) (h : ∀ W W' X, St w0 F W (X :: C) → ZOk w0 F Z N0 C0 W' → Rl Z W W' → OpG P ops env o W' (fun v w' => v = u ∧ w' = W'))
    (hk : JX P f ro n R ops T w0 F Z N0 C0 A σ τ ((i, u) :: D) env0 k ds (put env o.dst u) C) : JX P f ro n R ops T w0 F Z N0 C0 A ((i, 0) :: σ) τ D env0 k ds env C := by
  intro ok hp E rem hper W hs hz l tmps cs hI
  simp only [gB, Bool.and_eq_true] at hp
  obtain ⟨_, r1, r2, r3⟩ := jA hp.1
  have e0 : eB ((i, 0) :: σ) = i :: eB σ := rfl
  have hr := ok.node.reads ok.names ho r1 r3
  have hil : i ∈ l := hI.rest i (by rw [e0]; simp)
  have hEA : ∀ x ∈ E, x.1.i ∈ A.map (·.i) := fun x hx => List.mem_map.2 ⟨x.1, hper.mem_iff.1 (List.mem_append_left _ (List.mem_map.2 ⟨x, hx, rfl⟩)), rfl⟩
  refine hk (ok.tell hp.1 ho hp.2) hp.2 E rem hper W hs hz l tmps cs ⟨hI.lin, hI.nodup, fun j hj => ⟨(hI.part j hj).1, ?_⟩, fun j hj => hI.rest j (by rw [e0]; exact List.mem_cons_of_mem _ hj), hI.closed, hI.size, fun t v htv => hI.tm t v ?_, fun j x hj hjl => ?_⟩
  · rcases (hI.part j hj).2 with h1 | h1
    · rw [e0] at h1
      rcases List.mem_cons.1 h1 with rfl | h1
      · exact .inr (keysE.2 (.inr (by simp)))
      · exact .inl h1
    · rcases keysE.1 h1 with h1 | h1
      · exact .inr (keysE.2 (.inl h1))
      · exact .inr (keysE.2 (.inr (List.mem_cons_of_mem _ h1)))
  · rcases htv with ⟨j, hj, hjl, hjd⟩ | h1
    · rcases List.mem_append.1 hj with hj | hj
      · exact .inl ⟨j, List.mem_append_left _ hj, hjl, hjd⟩
      · rcases List.mem_cons.1 hj with e | hj
        · cases e; exact absurd hil hjl
        · exact .inl ⟨j, List.mem_append_right _ hj, hjl, hjd⟩
    · exact .inr h1
  · have hsub : ∀ y ∈ E.map AE.tell ++ D, y ∈ E.map AE.tell ++ (i, u) :: D := fun y hy => by
      rcases List.mem_append.1 hy with hy | hy
      · exact List.mem_append_left _ hy
      · exact List.mem_append_right _ (List.mem_cons_of_mem _ hy)
    have old : (j, x) ∈ E.map AE.tell ++ D → Pend P ops T Z (E.map AE.tell ++ (i, u) :: D) env0 j x W := fun hm => by
      obtain ⟨o', e', a1, a2, a3, a4⟩ := hI.pend j x hm hjl
      exact ⟨o', e', a1, a2, fun t v ht hv => (a3 t v ht hv).imp (fun ⟨y, b1, b2⟩ => ⟨y, hsub _ b1, b2⟩) id, a4⟩
    rcases List.mem_append.1 hj with hj | hj
    · exact old (List.mem_append_left _ hj)
    · rcases List.mem_cons.1 hj with e | hj
      · cases e
        exact ⟨o, env, ho, hnd, ReadsAt.more hr (fun y hy => List.mem_append_right _ (List.mem_cons_of_mem _ hy)), fun W' hW => h W W' _ hs.star (hz.rl hW) hW⟩
      · exact old (List.mem_append_right _ hj)
theorem xJ {i : Nat} {o : Oper} {u : Value} (ho : ops[i]? = some o) (hnd : cG o.op = true) (h : ∀ W X, St w0 F W (X :: C) → OpG P ops env o W (fun v w' => v = u ∧ w' = W))
    (hk : JX P f ro n R ops T w0 F NoF N0 C0 A σ τ ((i, u) :: D) env0 k ds (put env o.dst u) C) : JX P f ro n R ops T w0 F NoF N0 C0 A ((i, 0) :: σ) τ D env0 k ds env C :=
  uZ ho hnd (fun _ W' X hs _ hr => h W' X (hs.ext (hr.ext (fun _ h => h)))) hk
theorem qB {i : Nat} {o : Oper} {u : Value} (ho : ops[i]? = some o) (hnd : cG o.op = true) (h : ∀ W, St w0 F W C0 → OpG P ops env o W (fun v w' => v = u ∧ w' = W))
    (hk : JX P f ro n R ops T w0 F Z N0 C0 A σ τ ((i, u) :: D) env0 k ds (put env o.dst u) C) : JX P f ro n R ops T w0 F Z N0 C0 A ((i, 0) :: σ) τ D env0 k ds env C :=
  uZ ho hnd (fun _ W' _ _ hz _ => h W' hz.st) hk
theorem qA {i : Nat} {o : Oper} {S : World → HP → Value → World → Prop} (ho : ops[i]? = some o) (hnd : cG o.op = true) (h : ∀ W X, N0 ≤ W.heap.size → St w0 F W (X :: C) → OpG P ops env o W (S W X)) (hS : ∀ W X v w', S W X v w' → Rl Z W w')
    (hk : ∀ W X v w', N0 ≤ W.heap.size → St w0 F W (X :: C) → S W X v w' → JXat P f ro n R ops T w0 F Z N0 C0 A σ τ ((i, v) :: D) env0 k ds (put env o.dst v) w' X) : JX P f ro n R ops T w0 F Z N0 C0 A ((i, 1) :: σ) τ D env0 k ds env C := by
  intro ok hp E rem hper W hs hz l
  simp only [gB, Bool.and_eq_true, List.all_eq_true] at hp
  obtain ⟨⟨hp1, hp2⟩, hp3⟩ := hp
  obtain ⟨_, r1, r2, r3⟩ := jA hp1
  have e0 : eB ((i, 1) :: σ) = i :: eB σ := rfl
  refine JC_adv (C := C) ok (fun E rem hper W hs hz l hl => ?_) rem.length E rem rfl hper W hs hz l
  have hEA : ∀ x ∈ E, x.1.i ∈ A.map (·.i) := fun x hx => List.mem_map.2 ⟨x.1, hper.mem_iff.1 (List.mem_append_left _ (List.mem_map.2 ⟨x, hx, rfl⟩)), rfl⟩
  have hiE : i ∉ (E.map AE.tell ++ D).map (·.1) := fun hm => by
    rcases keysE.1 hm with ⟨x, hx, he⟩ | hm
    · exact r2 (he ▸ hEA x hx)
    · exact r1 hm
  rcases hl with ⟨_, he, _⟩ | ⟨j, r, rfl, hj, hdeps⟩
  · rw [e0] at he; cases he
  · have hji : j = i := by
      rw [e0] at hj
      rcases List.mem_cons.1 hj with h1 | h1
      · exact h1
      · exact absurd (hdeps i (Array.getElem?_eq_some_iff.1 ho).1 (hp2 j h1)) hiE
    subst hji
    intro tmps cs hI
    have hkeys : ((E.map AE.tell ++ D).map (·.1)).Nodup := by
      have hn : ((E.map (·.1) ++ rem).map (·.i)).Nodup := (hper.map _).nodup_iff.2 ok.anod
      rw [List.map_append, List.map_map] at hn
      rw [List.map_append, List.map_map]
      refine List.nodup_append.2 ⟨(List.nodup_append.1 hn).1, ok.node.keys, fun a ha b hb he => ?_⟩
      obtain ⟨x, hx, rfl⟩ := List.mem_map.1 ha
      exact ok.aD x.1 (hper.mem_iff.1 (List.mem_append_left _ (List.mem_map.2 ⟨x, hx, rfl⟩))) (by rw [← he] at hb; exact hb)
    obtain ⟨v, w2, tmps', hSv, hI2, hst⟩ := Inv.exec (f := f) (ro := ro) (ds := ds) (k := k) (todo' := (eB σ ++ τ) ++ rem.map (·.i)) ok.tab ok.names ok.node.dst hkeys hiE hI ho (ReadsAt.more (D := D) (o := o) (ok.node.reads ok.names ho r1 r3) (fun x hx => List.mem_append_right _ hx)) hnd (h W _ hz.size hs.star) (hS W _)
      (fun x hx => by rw [e0] at hx; exact (List.mem_cons.1 hx))
      (fun x hx => by
        refine ⟨fun he => ?_, by rw [e0]; exact List.mem_cons_of_mem _ hx⟩
        subst he
        rcases List.mem_append.1 hx with h1 | h1
        · have := hp2 x h1
          have := qS ok.tab (x + 1) x (by omega) (Array.getElem?_eq_some_iff.1 ho).1 x this; omega
        · obtain ⟨a, ha, he⟩ := List.mem_map.1 h1
          exact r2 (List.mem_map.2 ⟨a, hper.mem_iff.1 (List.mem_append_right _ ha), he⟩)) cs
    obtain ⟨v', w', fr, w'', hR, hs', hf⟩ := hk W _ v w2 hz.size hs.star hSv (ok.tell hp1 ho hp3) hp3 E rem hper rfl (hz.rl (hS W _ v w2 hSv)) r tmps' cs (hI2.same (fun _ => Iff.rfl) (fun x => by
      simp only [List.mem_cons, List.mem_append]; constructor
      · rintro (h | h | h)
        · exact .inr (.inl h)
        · exact .inl h
        · exact .inr (.inr h)
      · rintro (h | h | h)
        · exact .inr (.inl h)
        · exact .inl h
        · exact .inr (.inr h)))
    exact ⟨v', w', fr, w'', hR, hst.trans hs', hf⟩
theorem JX_new {i t : Nat} {o : Oper} {obj : Obj} {mk : Nat → Value} (ho : ops[i]? = some o) (hnd : cG o.op = true) (hdst : o.dst = some t) (h : ∀ W L, St w0 F W L → OpG P ops env o W (qG w0 F W L obj mk))
    (hk : JX P f ro n R ops T w0 F Z N0 C0 (⟨i, t, obj, mk⟩ :: A) σ τ D env0 k ds env C) : JX P f ro n R ops T w0 F Z N0 C0 A ((i, 2) :: σ) τ D env0 k ds env C := by
  intro ok hp E rem hper W hs hz l
  simp only [gB, Bool.and_eq_true] at hp
  obtain ⟨_, r1, r2, r3⟩ := jA hp.1
  have e0 : eB ((i, 2) :: σ) = i :: eB σ := rfl
  have ok' : XOk P ops T n w0 F (⟨i, t, obj, mk⟩ :: A) (eB σ ++ τ) D env0 env := ok.next ok.node (fun a ha => by
      rcases List.mem_cons.1 ha with rfl | ha
      · exact ⟨o, env, ho, hnd, hdst, ok.node.reads ok.names ho r1 r3, r3, h⟩
      · exact ok.pend a ha) (by simp only [List.map_cons, List.nodup_cons]; exact ⟨r2, ok.anod⟩) (fun a ha => by
      rcases List.mem_cons.1 ha with rfl | ha
      · exact r1
      · exact ok.aD a ha) hp.2
  refine (hk ok' hp.2 E (⟨i, t, obj, mk⟩ :: rem) (List.perm_middle.trans (List.Perm.cons _ hper)) W hs hz l).same (fun j => ?_) (fun _ => Iff.rfl)
  rw [e0]
  simp only [List.map_cons, List.mem_append, List.mem_cons, List.cons_append]
  constructor
  · rintro ((h | h) | h | h)
    · exact .inr (.inl (.inl h))
    · exact .inr (.inl (.inr h))
    · exact .inl h
    · exact .inr (.inr h)
  · rintro (h | (h | h) | h)
    · exact .inr (.inl h)
    · exact .inl (.inl h)
    · exact .inl (.inr h)
    · exact .inr (.inr h)
theorem qJ (i : Nat) (σ : List (Nat × Nat)) : eB ((i, 3) :: σ) = eB σ := rfl
theorem aCh {i t : Nat} {obj : Obj} {mk : Nat → Value} {A1 A2 : List AE} (hA : A = A1 ++ ⟨i, t, obj, mk⟩ :: A2) (hi1 : (A1.map (·.i)).contains i = false)
    (hk : ∀ b, JX P f ro n R ops T w0 F Z N0 C0 (A1 ++ A2) σ τ ((i, mk b) :: D) env0 k ds ((t, mk b) :: env) (Blk b obj :: C)) : JX P f ro n R ops T w0 F Z N0 C0 A ((i, 3) :: σ) τ D env0 k ds env C := by
  intro ok hp E rem hper W hs hz l
  subst hA
  simp only [gB, Bool.and_eq_true, List.all_eq_true, Bool.not_eq_true', List.contains_eq_mem, decide_eq_false_iff_not, decide_eq_true_eq] at hp hi1
  obtain ⟨⟨⟨hp0, hp1⟩, hp2⟩, hp3⟩ := hp
  have haA : (⟨i, t, obj, mk⟩ : AE) ∈ A1 ++ ⟨i, t, obj, mk⟩ :: A2 := List.mem_append_right _ List.mem_cons_self
  obtain ⟨o, e, ho, hnd, hdst, hr, hd5, hG⟩ := ok.pend _ haA
  dsimp only at ho hdst hr hd5 hG
  have her : ((A1 ++ ⟨i, t, obj, mk⟩ :: A2).map (·.i)).erase i = (A1 ++ A2).map (·.i) := by
    rw [List.map_append, List.map_cons, List.erase_append_right _ hi1, List.erase_cons_head, List.map_append]
  rw [her] at hp3
  rw [qJ]
  rw [qJ] at ok
  refine JC_adv (C := C) ok (fun E rem hper W hs hz l hl => ?_) rem.length E rem rfl hper W hs hz l
  have hE : ∃ b, ((⟨i, t, obj, mk⟩, b) : AE × Nat) ∈ E := by
    have hmem := hper.mem_iff.2 haA
    have hno : (⟨i, t, obj, mk⟩ : AE) ∉ rem ∨ ∃ x ∈ E, x.1.i = i := by
      rcases hl with ⟨_, _, rfl⟩ | ⟨j, r, _, hj, hdeps⟩
      · exact .inl (by simp)
      · rcases keysE.1 (hdeps i (Array.getElem?_eq_some_iff.1 ho).1 (hp2 j hj)) with h | h
        · exact .inr h
        · exact absurd h hp0
    rcases List.mem_append.1 hmem with h | h
    · obtain ⟨x, hx, he⟩ := List.mem_map.1 h
      exact ⟨x.2, by rw [← he]; exact hx⟩
    · rcases hno with h' | ⟨x, hx, he⟩
      · exact absurd h h'
      · exfalso
        have hn : ((E.map (·.1) ++ rem).map (·.i)).Nodup := (hper.map _).nodup_iff.2 ok.anod
        rw [List.map_append, List.map_map] at hn
        exact (List.nodup_append.1 hn).2.2 _ (List.mem_map.2 ⟨x, hx, rfl⟩) _ (List.mem_map.2 ⟨_, h, rfl⟩) he
  obtain ⟨b, hb⟩ := hE
  obtain ⟨E1, E2, rfl⟩ := List.append_of_mem hb
  have hper' : ((E1 ++ E2).map (·.1) ++ rem).Perm (A1 ++ A2) := by
    have h1 : (E1.map (·.1) ++ (⟨i, t, obj, mk⟩ :: (E2.map (·.1) ++ rem))).Perm (A1 ++ ⟨i, t, obj, mk⟩ :: A2) := by
      have := hper; simp only [List.map_append, List.map_cons, List.append_assoc, List.cons_append] at this; exact this
    have h2 := (List.perm_middle.symm.trans (h1.trans List.perm_middle)).cons_inv
    rw [List.map_append, List.append_assoc]; exact h2
  have hs' : St w0 F W ((E1 ++ E2).map AE.ch ++ Blk b obj :: C) := by
    refine hs.perm ?_
    simp only [List.map_append, List.map_cons, List.append_assoc, List.cons_append]
    refine List.Perm.append_left _ ?_
    exact List.perm_middle.symm
  have hnd' : Node ops T n ((i, mk b) :: D) env0 ((t, mk b) :: env) := by
    have := ok.node.more (u := mk b) ho hp0 hd5
    rw [hdst] at this; exact this
  have hanod : ((A1 ++ A2).map (·.i)).Nodup := by
    rw [← her]; exact ok.anod.erase _
  have ok' : XOk P ops T n w0 F (A1 ++ A2) (eB σ ++ τ) ((i, mk b) :: D) env0 ((t, mk b) :: env) := ok.next hnd'
    (fun a ha => (ok.pend a (by rcases List.mem_append.1 ha with h | h; exact List.mem_append_left _ h; exact List.mem_append_right _ (List.mem_cons_of_mem _ h))).more (fun x hx => List.mem_cons_of_mem _ hx))
    hanod (fun a ha h => by
      have haA' : a ∈ A1 ++ ⟨i, t, obj, mk⟩ :: A2 := by rcases List.mem_append.1 ha with h | h; exact List.mem_append_left _ h; exact List.mem_append_right _ (List.mem_cons_of_mem _ h)
      rcases List.mem_cons.1 h with h | h
      · have hn := ok.anod
        rw [List.map_append, List.map_cons] at hn
        have hn2 := (List.nodup_cons.1 (List.perm_middle.nodup_iff.1 hn)).1
        rw [← List.map_append] at hn2
        exact hn2 (List.mem_map.2 ⟨a, ha, h⟩)
      · exact ok.aD a haA' h) hp3
  refine (hk b ok' hp3 (E1 ++ E2) rem hper' W hs' hz l).same (fun _ => Iff.rfl) (fun x => ?_)
  simp only [List.map_append, List.map_cons, List.mem_append, List.mem_cons, AE.tell]
  constructor
  · rintro ((h | h) | h | h)
    · exact .inl (.inl h)
    · exact .inl (.inr (.inr h))
    · exact .inl (.inr (.inl h))
    · exact .inr h
  · rintro ((h | h | h) | h)
    · exact .inl (.inl h)
    · exact .inr (.inl h)
    · exact .inl (.inr h)
    · exact .inr (.inr h)
theorem aAk {N : Nat} {τ D : List Nat} (h : gB N T [] τ D [] = true) : planOk N T [] τ D = true := by
  simp only [gB, List.isEmpty_nil, Bool.true_and] at h
  simpa [planOk] using h
theorem bU (h : ∀ W, St w0 F W C → JD P f ro n R ops T Z [] τ D env0 k ds env W) : JX P f ro n R ops T w0 F Z N0 C0 [] [] τ D env0 k ds env C := by
  intro ok hp E rem hper W hs hz l tmps cs hI
  have hE : E = [] ∧ rem = [] := by
    have := hper.length_eq
    simp at this
    exact this
  obtain ⟨rfl, rfl⟩ := hE
  exact h W hs ok.tab ok.names (aAk hp) ok.node l tmps cs (by simpa [eB] using hI)
theorem tG {id : Nat} (T : List Nat) (σ : List (Nat × Nat)) (τ : List Nat) (hs : St w0 F w C) (hz : ZOk w0 F Z N0 C0 w) (hm : P.follows .mixedOrders = true) (hT : kA ops T = true) (hN : fC ops T = true) (hp : gB ops.size T σ τ [] [] = true) (hlt : (eB σ ++ τ).all (fun i => Nat.blt i ops.size) = true) (hdst : ops.toList.all (mQ n) = true)
    (hk : JX P f ro n R ops T w0 F Z N0 C0 [] σ τ [] env k ds env C) : J P f ro n R (.code (.region id ops true) :: k) ds env w := by
  intro tmps cs hn hmt
  have hst := stepR_region_draw (P := P) (b := base f ro) (a := ⟨tmps, ds⟩) (k := k) (cs := cs) (w := w) (ops := ops) (id := id)
  simp only [Region.schedule, hm, Bool.true_or, if_true] at hst
  have hS := tL hT (w.tape w.drawn (.order (base f ro).fn id))
  have hcover := (jQ hp).1
  have nd : Node ops T n [] env env := ⟨by simp, fun i hi => by simp at hi, fun i hi => by simp at hi, fun t v hv => .inr ⟨fun i hi => by simp at hi, hv⟩, fun i o ho => List.all_eq_true.1 hdst o (by simpa using Array.mem_of_getElem? ho)⟩
  have ok : XOk P ops T n w0 F [] (eB σ ++ τ) [] env env := ⟨hT, hN, nd, by simp, by simp, by simp, by simpa using hcover, by simp, by simp⟩
  simp only [List.all_eq_true, Nat.blt_eq] at hlt
  have hI : Inv P ops T Z n (Region.linearise .any ops (w.tape w.drawn (.order (base f ro).fn id))) (eB σ ++ τ) [] env tmps { w with drawn := w.drawn + 1 } := by
    refine ⟨hS.lin, hS.nodup, fun i hi => ⟨((hS.mem i).1 hi).1, .inl ?_⟩, fun i hi => (hS.mem i).2 ⟨hlt i hi, fun h => h⟩,
      fun j hj hjl => absurd ((hS.mem j).2 ⟨hj, fun h => h⟩) hjl, hn, fun t v htv => ?_, fun i u hi => by simp at hi⟩
    · rcases hcover i ((hS.mem i).1 hi).1 with h | h | h
      · simp at h
      · exact h
      · simp at h
    · rcases htv with ⟨i, hi, _⟩ | ⟨_, h2⟩
      · simp at hi
      · exact hmt t v h2
  obtain ⟨v', w', fr, w'', hR, hs', hf⟩ := JX_start ok hp (hs.ext (Ext.drew w)) (hz.rl (Ext.drew w).rl) hk _ tmps cs hI
  exact ⟨v', w', fr, w'', hR, .head hst hs', hf⟩
theorem bQ {id : Nat} (T : List Nat) (σ : List (Nat × Nat)) (τ : List Nat) (hs : St w0 F w C) (hm : P.follows .mixedOrders = true) (hT : kA ops T = true) (hN : fC ops T = true) (hp : gB ops.size T σ τ [] [] = true) (hlt : (eB σ ++ τ).all (fun i => Nat.blt i ops.size) = true) (hdst : ops.toList.all (mQ n) = true)
    (hk : JX P f ro n R ops T w0 F NoF 0 [] [] σ τ [] env k ds env C) : J P f ro n R (.code (.region id ops true) :: k) ds env w :=
  tG T σ τ hs (ZOk.none (hs.sub (List.nil_sublist _))) hm hT hN hp hlt hdst hk
theorem J_drawZ {id : Nat} (T : List Nat) (σ : List (Nat × Nat)) (τ : List Nat) (hs : St w0 F w C) (hm : P.follows .mixedOrders = true) (hT : kA ops T = true) (hN : fC ops T = true) (hp : gB ops.size T σ τ [] [] = true) (hlt : (eB σ ++ τ).all (fun i => Nat.blt i ops.size) = true) (hdst : ops.toList.all (mQ n) = true)
    (hk : ∀ N, N = w.heap.size → JX P f ro n R ops T w0 F (fun k => N ≤ k) N C [] σ τ [] env k ds env C) : J P f ro n R (.code (.region id ops true) :: k) ds env w :=
  tG T σ τ hs ⟨fun k hk _ h => by have := hs.frm.size; omega, fun c hc k hk h => by have := (hs.foot c hc k hk).1; omega, hs, Nat.le_refl _⟩ hm hT hN hp hlt hdst (hk _ rfl)
variable {op : Op} {ty : TypeId} {pos : String} {af : Array Edge}
theorem JX_f {i t : Nat} {u : Value} (ho : ops[i]? = some ⟨some t, op, ty, pos, af, none⟩) (h : ∀ W X, St w0 F W (X :: C) → OpR P env ⟨some t, op, ty, pos, af, none⟩ W (Is u W)) (hnd : cG op = true)
    (hk : JX P f ro n R ops T w0 F NoF N0 C0 A σ τ ((i, u) :: D) env0 k ds ((t, u) :: env) C) : JX P f ro n R ops T w0 F NoF N0 C0 A ((i, 0) :: σ) τ D env0 k ds env C :=
  xJ ho hnd (fun W X hs => iV rfl (h W X hs)) hk
theorem aCi {i t : Nat} {u : Value} (ho : ops[i]? = some ⟨some t, op, ty, pos, af, none⟩) (h : ∀ W, St w0 F W C0 → OpR P env ⟨some t, op, ty, pos, af, none⟩ W (Is u W)) (hnd : cG op = true)
    (hk : JX P f ro n R ops T w0 F Z N0 C0 A σ τ ((i, u) :: D) env0 k ds ((t, u) :: env) C) : JX P f ro n R ops T w0 F Z N0 C0 A ((i, 0) :: σ) τ D env0 k ds env C :=
  qB ho hnd (fun W hs => iV rfl (h W hs)) hk
theorem dB {i t : Nat} {u : Value} {j : Nat} {c b : Bool} (ho : ops[i]? = some ⟨some t, op, ty, pos, af, some (j, c)⟩) (hv : gval ops env j = some b) (hb : b = c) (h : ∀ W X, St w0 F W (X :: C) → OpR P env ⟨some t, op, ty, pos, af, some (j, c)⟩ W (Is u W)) (hnd : cG op = true)
    (hk : JX P f ro n R ops T w0 F NoF N0 C0 A σ τ ((i, u) :: D) env0 k ds ((t, u) :: env) C) : JX P f ro n R ops T w0 F NoF N0 C0 A ((i, 0) :: σ) τ D env0 k ds env C :=
  xJ ho hnd (fun W X hs => OpG_on rfl hv hb (h W X hs)) hk
theorem cM {i t : Nat} {j : Nat} {c b : Bool} (ho : ops[i]? = some ⟨some t, op, ty, pos, af, some (j, c)⟩) (hv : gval ops env j = some b) (hb : b = !c) (hnd : cG op = true)
    (hk : JX P f ro n R ops T w0 F Z N0 C0 A σ τ ((i, undef) :: D) env0 k ds ((t, undef) :: env) C) : JX P f ro n R ops T w0 F Z N0 C0 A ((i, 0) :: σ) τ D env0 k ds env C :=
  qB ho hnd (fun _ _ => tC rfl hv hb ⟨rfl, rfl⟩) hk
theorem oN {i t : Nat} {j : Nat} {c : Bool} (ho : ops[i]? = some ⟨some t, op, ty, pos, af, some (j, c)⟩) (hv : Gund ops env j) (hnd : cG op = true)
    (hk : JX P f ro n R ops T w0 F Z N0 C0 A σ τ ((i, undef) :: D) env0 k ds ((t, undef) :: env) C) : JX P f ro n R ops T w0 F Z N0 C0 A ((i, 0) :: σ) τ D env0 k ds env C :=
  qB ho hnd (fun _ _ => aCd rfl hv ⟨rfl, rfl⟩) hk
theorem oO {i t : Nat} {j : Nat} {c : Bool} (ho : ops[i]? = some ⟨some t, op, ty, pos, af, some (j, c)⟩) (hv : Gund ops env j) (hnd : cG op = true)
    (hk : JX P f ro n R ops T w0 F Z N0 C0 A σ τ ((i, undef) :: D) env0 k ds ((t, undef) :: env) C) : JX P f ro n R ops T w0 F Z N0 C0 A ((i, 1) :: σ) τ D env0 k ds env C :=
  qA (S := fun W _ => Is undef W) ho hnd (fun W X hN hs => aCd rfl hv aI) (fun W X v w' ⟨_, e⟩ => by rw [e]; exact Rl.refl _) (fun W X v w' hN hs ⟨e1, e2⟩ => by rw [e1, e2]; exact JX.at hs hk)
theorem JX_n {i t : Nat} {obj : Obj} {mk : Nat → Value} (ho : ops[i]? = some ⟨some t, op, ty, pos, af, none⟩) (h : ∀ W L, St w0 F W L → OpR P env ⟨some t, op, ty, pos, af, none⟩ W (qG w0 F W L obj mk)) (hnd : cG op = true)
    (hk : JX P f ro n R ops T w0 F Z N0 C0 (⟨i, t, obj, mk⟩ :: A) σ τ D env0 k ds env C) : JX P f ro n R ops T w0 F Z N0 C0 A ((i, 2) :: σ) τ D env0 k ds env C :=
  JX_new ho hnd rfl (fun W L hs => iV rfl (h W L hs)) hk
theorem JX_c {i t : Nat} {S : World → HP → Value → World → Prop} (ho : ops[i]? = some ⟨some t, op, ty, pos, af, none⟩) (h : ∀ W X, N0 ≤ W.heap.size → St w0 F W (X :: C) → OpR P env ⟨some t, op, ty, pos, af, none⟩ W (S W X)) (hS : ∀ W X v w', S W X v w' → Rl Z W w') (hnd : cG op = true)
    (hk : ∀ W X v w', N0 ≤ W.heap.size → St w0 F W (X :: C) → S W X v w' → JXat P f ro n R ops T w0 F Z N0 C0 A σ τ ((i, v) :: D) env0 k ds ((t, v) :: env) w' X) : JX P f ro n R ops T w0 F Z N0 C0 A ((i, 1) :: σ) τ D env0 k ds env C :=
  qA ho hnd (fun W X hN hs => iV rfl (h W X hN hs)) hS hk
theorem lT {i t : Nat} {S : World → HP → Value → World → Prop} {j : Nat} {c b : Bool} (ho : ops[i]? = some ⟨some t, op, ty, pos, af, some (j, c)⟩) (hv : gval ops env j = some b) (hb : b = c) (h : ∀ W X, N0 ≤ W.heap.size → St w0 F W (X :: C) → OpR P env ⟨some t, op, ty, pos, af, some (j, c)⟩ W (S W X)) (hS : ∀ W X v w', S W X v w' → Rl Z W w') (hnd : cG op = true)
    (hk : ∀ W X v w', N0 ≤ W.heap.size → St w0 F W (X :: C) → S W X v w' → JXat P f ro n R ops T w0 F Z N0 C0 A σ τ ((i, v) :: D) env0 k ds ((t, v) :: env) w' X) : JX P f ro n R ops T w0 F Z N0 C0 A ((i, 1) :: σ) τ D env0 k ds env C :=
  qA ho hnd (fun W X hN hs => OpG_on rfl hv hb (h W X hN hs)) hS hk
theorem cU {i t : Nat} {j : Nat} {c b : Bool} (ho : ops[i]? = some ⟨some t, op, ty, pos, af, some (j, c)⟩) (hv : gval ops env j = some b) (hb : b = !c) (hnd : cG op = true)
    (hk : JX P f ro n R ops T w0 F Z N0 C0 A σ τ ((i, undef) :: D) env0 k ds ((t, undef) :: env) C) : JX P f ro n R ops T w0 F Z N0 C0 A ((i, 1) :: σ) τ D env0 k ds env C :=
  qA (S := fun W _ => Is undef W) ho hnd (fun W X hN hs => tC rfl hv hb aI) (fun W X v w' ⟨_, e⟩ => by rw [e]; exact Rl.refl _) (fun W X v w' hN hs ⟨e1, e2⟩ => by rw [e1, e2]; exact JX.at hs hk)
theorem JX_split {i : Nat} {o : Option Tmp} {j : Nat} {c b : Bool} {q : Nat} (_ : ops[i]? = some ⟨o, op, ty, pos, af, some (j, c)⟩) (_ : gval ops env j = some b)
    (ht : b = c → JX P f ro n R ops T w0 F Z N0 C0 A ((i, q) :: σ) τ D env0 k ds env C) (hf : b = !c → JX P f ro n R ops T w0 F Z N0 C0 A ((i, q) :: σ) τ D env0 k ds env C) : JX P f ro n R ops T w0 F Z N0 C0 A ((i, q) :: σ) τ D env0 k ds env C := by
  cases b <;> cases c <;> first | exact ht rfl | exact hf rfl
theorem cE {i : Nat} {o : Option Tmp} {j : Nat} {c : Bool} {q : Nat} {p : Prop} [Decidable p] (_ : ops[i]? = some ⟨o, op, ty, pos, af, some (j, c)⟩) (_ : gval ops env j = some (decide p))
    (ht : p → JX P f ro n R ops T w0 F Z N0 C0 A ((i, q) :: σ) τ D env0 k ds env C) (hf : ¬ p → JX P f ro n R ops T w0 F Z N0 C0 A ((i, q) :: σ) τ D env0 k ds env C) : JX P f ro n R ops T w0 F Z N0 C0 A ((i, q) :: σ) τ D env0 k ds env C := by
  by_cases hp : p
  · exact ht hp
  · exact hf hp
theorem JX_k {i t : Nat} {obj : Obj} {mk : Nat → Value} {A2 : List AE}
    (hk : ∀ b, JX P f ro n R ops T w0 F Z N0 C0 A2 σ τ ((i, mk b) :: D) env0 k ds ((t, mk b) :: env) (Blk b obj :: C)) : JX P f ro n R ops T w0 F Z N0 C0 (⟨i, t, obj, mk⟩ :: A2) ((i, 3) :: σ) τ D env0 k ds env C :=
  aCh (A1 := []) rfl rfl hk
theorem JX_k2 {i t : Nat} {obj : Obj} {mk : Nat → Value} {a1 : AE} {A2 : List AE} (h1 : (a1.i == i) = false)
    (hk : ∀ b, JX P f ro n R ops T w0 F Z N0 C0 (a1 :: A2) σ τ ((i, mk b) :: D) env0 k ds ((t, mk b) :: env) (Blk b obj :: C)) : JX P f ro n R ops T w0 F Z N0 C0 (a1 :: ⟨i, t, obj, mk⟩ :: A2) ((i, 3) :: σ) τ D env0 k ds env C :=
  aCh (A1 := [a1]) rfl (by simp only [List.map_cons, List.map_nil, List.contains_cons, List.contains_nil, Bool.or_false]; rw [← h1]; simp [Bool.beq_comm]) hk
theorem ax_c {i : Nat} (h : JX P f ro n R ops T w0 F Z N0 C0 A ((i, 1) :: σ) τ D env0 k ds env C) : JX P f ro n R ops T w0 F Z N0 C0 A ((i, 1) :: σ) τ D env0 k ds env C := h
theorem ax_n {i : Nat} (h : JX P f ro n R ops T w0 F Z N0 C0 A ((i, 2) :: σ) τ D env0 k ds env C) : JX P f ro n R ops T w0 F Z N0 C0 A ((i, 2) :: σ) τ D env0 k ds env C := h
theorem ax_k {i : Nat} (h : JX P f ro n R ops T w0 F Z N0 C0 A ((i, 3) :: σ) τ D env0 k ds env C) : JX P f ro n R ops T w0 F Z N0 C0 A ((i, 3) :: σ) τ D env0 k ds env C := h
end
end
end Go.Eng
end
section
namespace Go.Eng
open Go.RowKit
theorem St.sel {w0 w : World} {F : Nat → Prop} {L : List HP} (h : St w0 F w L) (l : List Nat) (hl : l.Nodup) : St w0 F w (l.filterMap fun i => L[i]?) := by
  have hm : ∀ c ∈ l.filterMap (fun i => L[i]?), c ∈ L := fun c hc => by
    obtain ⟨i, _, hi⟩ := List.mem_filterMap.1 hc
    exact List.mem_of_getElem? hi
  refine ⟨h.frm, fun c hc => h.all c (hm c hc), fun c hc => h.foot c (hm c hc), List.pairwise_filterMap.2 (hl.imp fun {a b} hab x hx y hy k hk hky => ?_)⟩
  have ha := (List.getElem?_eq_some_iff.1 hx)
  have hb := (List.getElem?_eq_some_iff.1 hy)
  obtain ⟨ha1, rfl⟩ := ha
  obtain ⟨hb1, rfl⟩ := hb
  rcases Nat.lt_or_gt_of_ne hab with h1 | h1
  · exact List.pairwise_iff_getElem.1 h.sep a b ha1 hb1 h1 k hk hky
  · exact List.pairwise_iff_getElem.1 h.sep b a hb1 ha1 h1 k hky hk
section
variable {P : Program} {f : FuncId} {ro : Option Nat} {n : Nat} {R : Value → World → Prop} {k : List Item} {ds : List Deferred} {env : Env} {w : World}
theorem bT {α : Type} (fx : Env) (V : α → Env) (I : α → World → Prop) (μ : α → Nat) (x0 : α) {x : Code} (h0 : I x0 w) (hs : Sub (V x0 ++ fx) env)
    (round : ∀ g w, I g w → (∀ g' w' env', I g' w' → μ g' < μ g → Sub (V g' ++ fx) env' → J P f ro n R (.inLoop x :: k) ds env' w') → J P f ro n R (.code x :: .inLoop x :: k) ds (V g ++ fx) w) :
    J P f ro n R (.code (.loop x) :: k) ds env w :=
  J_loop I (fun g => V g ++ fx) μ x0 h0 hs (fun g w hi ih => round g w hi (fun g' w' _ hi' hlt hsub => .sub hsub (ih g' w' hi' hlt)))
theorem J_cutK {γ : Type} {c : Code} (fx : Env) (_ : Sub fx env) (V : γ → Env) (K : γ → World → Prop)
    (h : ∀ R k, (∀ g env' w', K g w' → Sub (V g ++ fx) env' → J P f ro n R k ds env' w') → J P f ro n R (.code c :: k) ds env w)
    (hk : ∀ g w', K g w' → J P f ro n R k ds (V g ++ fx) w') : J P f ro n R (.code c :: k) ds env w :=
  h R k (fun g _ w' hK hsub => .sub hsub (hk g w' hK))
end
section
variable {P : Program} {f : FuncId} {ro : Option Nat} {n : Nat} {R : Value → World → Prop} {k : List Item} {ds : List Deferred} {env env0 : Env} {w w0 : World} {F : Nat → Prop}
variable {ops : Array Oper} {os : List Oper} {T : List Nat} {Z : Nat → Prop} {N0 : Nat} {C0 C : List HP} {D : List (Nat × Value)} {τ : List Nat} {A : List AE} {σ : List (Nat × Nat)} {ty : TypeId} {pos : String} {af : Array Edge} {args : Array Operand} {at_ : Array TypeId}
theorem aL (K : Nat) {t : Nat} (h : JL P f ro n R ops (⟨some t, .call ⟨.value (.func K), args, at_⟩, ty, pos, af, none⟩ :: os) k ds env w) : JL P f ro n R ops (⟨some t, .call ⟨.value (.func K), args, at_⟩, ty, pos, af, none⟩ :: os) k ds env w := h
theorem bE (K : Nat) {t : Nat} {g : Nat × Bool} (h : JL P f ro n R ops (⟨some t, .call ⟨.value (.func K), args, at_⟩, ty, pos, af, some g⟩ :: os) k ds env w) : JL P f ro n R ops (⟨some t, .call ⟨.value (.func K), args, at_⟩, ty, pos, af, some g⟩ :: os) k ds env w := h
theorem gG (K : Nat) {i t : Nat} {S : World → HP → Value → World → Prop} (ho : ops[i]? = some ⟨some t, .call ⟨.value (.func K), args, at_⟩, ty, pos, af, none⟩) (h : ∀ W X, N0 ≤ W.heap.size → St w0 F W (X :: C) → OpR P env ⟨some t, .call ⟨.value (.func K), args, at_⟩, ty, pos, af, none⟩ W (S W X)) (hS : ∀ W X v w', S W X v w' → Ext W w')
    (hk : ∀ W X v w', N0 ≤ W.heap.size → St w0 F W (X :: C) → S W X v w' → JXat P f ro n R ops T w0 F Z N0 C0 A σ τ ((i, v) :: D) env0 k ds ((t, v) :: env) w' X) : JX P f ro n R ops T w0 F Z N0 C0 A ((i, 1) :: σ) τ D env0 k ds env C :=
  JX_c ho h (fun W X v w' s => (hS W X v w' s).rl) rfl hk
theorem bY (K : Nat) {i t j : Nat} {c b : Bool} {S : World → HP → Value → World → Prop} (ho : ops[i]? = some ⟨some t, .call ⟨.value (.func K), args, at_⟩, ty, pos, af, some (j, c)⟩) (hv : gval ops env j = some b) (hb : b = c) (h : ∀ W X, N0 ≤ W.heap.size → St w0 F W (X :: C) → OpR P env ⟨some t, .call ⟨.value (.func K), args, at_⟩, ty, pos, af, some (j, c)⟩ W (S W X)) (hS : ∀ W X v w', S W X v w' → Ext W w')
    (hk : ∀ W X v w', N0 ≤ W.heap.size → St w0 F W (X :: C) → S W X v w' → JXat P f ro n R ops T w0 F Z N0 C0 A σ τ ((i, v) :: D) env0 k ds ((t, v) :: env) w' X) : JX P f ro n R ops T w0 F Z N0 C0 A ((i, 1) :: σ) τ D env0 k ds env C :=
  lT ho hv hb h (fun W X v w' s => (hS W X v w' s).rl) rfl hk
end
theorem bool_contra {b c : Bool} {G : Prop} (h : b = c) (h2 : b = !c) : G := by subst h; cases b <;> simp at h2
end Go.Eng
end
