/- The engine, part 1: a judgement on a frame in the middle of its work, known slots by an association list, and the rules that step it. -/
import Derived.AtR
import Derived.Orders
import Derived.Below
import Derived.Tactics
namespace Go.Eng

/-! ### Known slots -/
abbrev Env := List (Nat × Value)
def Env.get : Env → Nat → Option Value
  | [], _ => none
  | (s, v) :: r, t => bif Nat.beq s t then some v else Env.get r t
def Match (tmps : Array Value) (e : Env) : Prop := ∀ t v, Env.get e t = some v → tmps[t]? = some v
def ev (e : Env) : Operand → Option Value
  | .tmp t => Env.get e t
  | .const v => some v
  | .global g => some (.pointer (some ⟨g, 0, none⟩))
  | .func f => some (.func (.func f) #[] #[])
def put (e : Env) (d : Option Nat) (v : Value) : Env := match d with | none => e | some t => (t, v) :: e
/-- All that e tells, e' tells. -/
def Sub : Env → Env → Prop
  | [], _ => True
  | (t, v) :: r, e => Env.get e t = some v ∧ Sub r e

theorem Env.get_cons (s : Nat) (v : Value) (r : Env) (t : Nat) : Env.get ((s, v) :: r) t = if s = t then some v else Env.get r t := by
  simp only [Env.get]
  by_cases h : s = t
  · subst h; simp
  · have : Nat.beq s t = false := by
      cases hb : Nat.beq s t
      · rfl
      · exact absurd (Nat.eq_of_beq_eq_true hb) h
    simp [this, h]
theorem Sub.get {e e' : Env} (h : Sub e e') : ∀ t v, Env.get e t = some v → Env.get e' t = some v := by
  induction e with
  | nil => intro t v h'; simp [Env.get] at h'
  | cons x r ih =>
    obtain ⟨s, u⟩ := x
    intro t v h'
    rw [Env.get_cons] at h'
    by_cases hs : s = t
    · subst hs; simp at h'; subst h'; exact h.1
    · simp [hs] at h'; exact ih h.2 t v h'
theorem Match.sub {tmps : Array Value} {e e' : Env} (h : Match tmps e') (hs : Sub e e') : Match tmps e := fun t v hv => h t v (hs.get t v hv)
theorem Match.eval {tmps : Array Value} {e : Env} (h : Match tmps e) {ds : List Deferred} {x : Operand} {v : Value} (hx : ev e x = some v) : Act.eval ⟨tmps, ds⟩ x = v := by
  cases x with
  | tmp t => simp [Act.eval, Array.getD_eq_getD_getElem?, h t v hx]
  | const u => simpa [ev, Act.eval] using hx
  | global g => simpa [ev, Act.eval] using hx
  | func f => simpa [ev, Act.eval] using hx
theorem Match.put {tmps : Array Value} {e : Env} (h : Match tmps e) {d : Option Nat} (hd : ∀ t, d = some t → t < tmps.size) (v : Value) :
    Match (Act.put ⟨tmps, []⟩ d v).tmps (put e d v) := by
  cases d with
  | none => exact h
  | some s =>
    intro t u ht
    have hs := hd s rfl
    simp only [Eng.put] at ht
    rw [Env.get_cons] at ht
    simp only [Act.put]
    by_cases hst : s = t
    · subst hst; simp at ht; subst ht; simp [hs]
    · simp [hst] at ht
      rw [Array.getElem?_setIfInBounds_ne hst]
      exact h t u ht
theorem Match.nil (tmps : Array Value) : Match tmps [] := fun t v h => by simp [Env.get] at h
theorem put_size (tmps : Array Value) (ds : List Deferred) (d : Option Nat) (v : Value) : (Act.put ⟨tmps, ds⟩ d v).tmps.size = tmps.size := by
  cases d <;> simp [Act.put]
theorem put_tmps (tmps : Array Value) (ds ds' : List Deferred) (d : Option Nat) (v : Value) : (Act.put ⟨tmps, ds⟩ d v).tmps = (Act.put ⟨tmps, ds'⟩ d v).tmps := by
  cases d <;> simp [Act.put]
theorem put_eta (tmps : Array Value) (ds : List Deferred) (d : Option Nat) (v : Value) : Act.put ⟨tmps, ds⟩ d v = ⟨(Act.put ⟨tmps, []⟩ d v).tmps, ds⟩ := by
  cases d <;> simp [Act.put]

/-! ### The judgement -/
def base (f : FuncId) (ro : Option Nat) : Frame := { (default : Frame) with fn := f, kind := .normal, roundOf := ro }
/-- How a frame is left with value v and world w'. -/
def Fin (P : Program) (f : FuncId) (ro : Option Nat) (fr : Frame) (cs : List Frame) (w : World) (v : Value) (w' : World) : Prop :=
  match ro with
  | none => fr.fn = f ∧ w' = w ∧ fr.leaving P w (.returned v)
  | some _ => ∀ c r, cs = c :: r → Steps P (lone fr cs w) (lone (c.finish v) r w')

def J (P : Program) (f : FuncId) (ro : Option Nat) (n : Nat) (R : Value → World → Prop) (todo : List Item) (ds : List Deferred) (env : Env) (w : World) : Prop :=
  ∀ (tmps : Array Value) (cs : List Frame), tmps.size = n → Match tmps env →
    ∃ v w' fr w'', R v w' ∧ Steps P (lone ((base f ro).atR ⟨tmps, ds⟩ todo) cs w) (lone fr cs w'') ∧ Fin P f ro fr cs w'' v w'

section
variable {P : Program} {f : FuncId} {ro : Option Nat} {n : Nat} {R : Value → World → Prop} {todo todo' k : List Item} {ds ds' : List Deferred} {env env' : Env} {w w' : World}

/-- One step of the machine, whatever the unknown slots hold. -/
theorem J.step (h : ∀ (tmps : Array Value) (cs : List Frame), tmps.size = n → Match tmps env → ∃ tmps' : Array Value, tmps'.size = n ∧ Match tmps' env' ∧
      Steps P (lone ((base f ro).atR ⟨tmps, ds⟩ todo) cs w) (lone ((base f ro).atR ⟨tmps', ds'⟩ todo') cs w'))
    (hj : J P f ro n R todo' ds' env' w') : J P f ro n R todo ds env w := by
  intro tmps cs hn hm
  obtain ⟨tmps', hn', hm', hs⟩ := h tmps cs hn hm
  obtain ⟨v, u, fr, w'', hR, hs', hfin⟩ := hj tmps' cs hn' hm'
  exact ⟨v, u, fr, w'', hR, hs.trans hs', hfin⟩
theorem J.same (h : ∀ (tmps : Array Value), tmps.size = n → Match tmps env → ∀ cs, Steps P (lone ((base f ro).atR ⟨tmps, ds⟩ todo) cs w) (lone ((base f ro).atR ⟨tmps, ds'⟩ todo') cs w'))
    (hj : J P f ro n R todo' ds' env w') : J P f ro n R todo ds env w :=
  J.step (fun tmps cs hn hm => ⟨tmps, hn, hm, h tmps hn hm cs⟩) hj
theorem J.sub (hs : Sub env' env) (hj : J P f ro n R todo ds env' w) : J P f ro n R todo ds env w := fun tmps cs hn hm => hj tmps cs hn (hm.sub hs)
theorem J.mono {R' : Value → World → Prop} (hr : ∀ v w, R v w → R' v w) (hj : J P f ro n R todo ds env w) : J P f ro n R' todo ds env w := fun tmps cs hn hm =>
  let ⟨v, u, fr, w'', hR, hc⟩ := hj tmps cs hn hm; ⟨v, u, fr, w'', hr _ _ hR, hc⟩

theorem J_skip (h : J P f ro n R k ds env w) : J P f ro n R (.code .skip :: k) ds env w := .same (fun _ _ _ _ => .one stepR_skip) h
theorem J_label {l : Nat} (h : J P f ro n R k ds env w) : J P f ro n R (.code (.label l) :: k) ds env w := .same (fun _ _ _ _ => .one stepR_label) h
theorem J_inBlock {id : Nat} (h : J P f ro n R k ds env w) : J P f ro n R (.inBlock id :: k) ds env w := .same (fun _ _ _ _ => .one stepR_inBlock) h
theorem stepR_inScope {b : Frame} {a : Act} {cs : List Frame} {x : Code} : step P (lone (b.atR a (.inScope x :: k)) cs w) = .next (lone (b.atR a k) cs w) :=
  step_lone_go (by simp [stepG, stepG.exec, Frame.atR])
theorem stepR_scope {b : Frame} {a : Act} {cs : List Frame} {x : Code} : step P (lone (b.atR a (.code (.scope x) :: k)) cs w) = .next (lone (b.atR a (.code x :: .inScope x :: k)) cs w) :=
  step_lone_go (by simp [stepG, stepG.exec, Frame.atR])
theorem J_scope {x : Code} (h : J P f ro n R (.code x :: .inScope x :: k) ds env w) : J P f ro n R (.code (.scope x) :: k) ds env w := .same (fun _ _ _ _ => .one stepR_scope) h
theorem J_inScope {x : Code} (h : J P f ro n R k ds env w) : J P f ro n R (.inScope x :: k) ds env w := .same (fun _ _ _ _ => .one stepR_inScope) h
theorem J_seq {x y : Code} (h : J P f ro n R (.code x :: .code y :: k) ds env w) : J P f ro n R (.code (.seq x y) :: k) ds env w := .same (fun _ _ _ _ => .one stepR_seq) h
theorem J_block {id : Nat} {x : Code} (h : J P f ro n R (.code x :: .inBlock id :: k) ds env w) : J P f ro n R (.code (.block id x) :: k) ds env w := .same (fun _ _ _ _ => .one stepR_block) h
theorem J_exit {id : Nat} (hk : exitTo id k = some todo') (h : J P f ro n R todo' ds env w) : J P f ro n R (.code (.exit id) :: k) ds env w := .same (fun _ _ _ _ => .one (stepR_exit hk)) h
theorem J_goto {id : Nat} (hk : gotoIn id k = some todo') (h : J P f ro n R todo' ds env w) : J P f ro n R (.code (.goto id) :: k) ds env w := .same (fun _ _ _ _ => .one (stepR_goto hk)) h
theorem J_inLoop {x : Code} (h : J P f ro n R (.code x :: .inLoop x :: k) ds env w) : J P f ro n R (.inLoop x :: k) ds env w := .same (fun _ _ _ _ => .one stepR_inLoop) h
theorem J_loop1 {x : Code} (h : J P f ro n R (.code x :: .inLoop x :: k) ds env w) : J P f ro n R (.code (.loop x) :: k) ds env w := .same (fun _ _ _ _ => .one stepR_loop) h
theorem J_cond {c : Operand} {x y : Code} {b : Bool} (hc : ev env c = some (.bool b)) (ht : b = true → J P f ro n R (.code x :: k) ds env w) (hf : b = false → J P f ro n R (.code y :: k) ds env w) :
    J P f ro n R (.code (.cond c x y) :: k) ds env w := by
  cases b with
  | true => exact .same (fun _ _ hm cs => .one (stepR_cond (P := P) (b := base f ro) (k := k) (w := w) (x := x) (y := y) (cs := cs) (hm.eval (ds := ds) hc))) (ht rfl)
  | false => exact .same (fun _ _ hm cs => .one (stepR_cond (P := P) (b := base f ro) (k := k) (w := w) (x := x) (y := y) (cs := cs) (hm.eval (ds := ds) hc))) (hf rfl)

/-- A loop: what holds at each round's head is told of a ghost x. -/
theorem J_loop {α : Type} (I : α → World → Prop) (E : α → Env) (μ : α → Nat) (x0 : α) {x : Code} (h0 : I x0 w) (hs : Sub (E x0) env)
    (round : ∀ g w, I g w → (∀ g' w', I g' w' → μ g' < μ g → J P f ro n R (.inLoop x :: k) ds (E g') w') → J P f ro n R (.code x :: .inLoop x :: k) ds (E g) w) :
    J P f ro n R (.code (.loop x) :: k) ds env w := by
  have key : ∀ m g w, μ g = m → I g w → J P f ro n R (.code x :: .inLoop x :: k) ds (E g) w := by
    intro m
    induction m using Nat.strongRecOn with
    | _ m ih =>
      intro g w hm hi
      exact round g w hi (fun g' w' hi' hlt => J_inLoop (ih _ (by omega) g' w' rfl hi'))
  exact J_loop1 (.sub hs (key _ x0 w rfl h0))

/-! ### Leaving -/
theorem J_ret {fn : Func} {v : Value} (hf : P.funcs[f]? = some fn) (hr : ∀ tmps, Match tmps env → (results fn tmps).run P w = .ok v w) (hR : R v w) :
    J P f none n R (.code .ret :: k) [] env w := fun tmps _ _ hm =>
  ⟨v, w, _, w, hR, .one (stepR_ret rfl), rfl, rfl, rfl, rfl, rfl, fn, hf, hr tmps hm⟩
theorem J_end {fn : Func} {v : Value} (hf : P.funcs[f]? = some fn) (hr : ∀ tmps, Match tmps env → (results fn tmps).run P w = .ok v w) (hR : R v w) :
    J P f none n R [] [] env w := fun tmps _ _ hm =>
  ⟨v, w, _, w, hR, .one (stepR_end rfl), rfl, rfl, rfl, rfl, rfl, fn, hf, hr tmps hm⟩

/-! ### Contracts -/
/-- Function f, called so, returns, and R holds. -/
def Ret (P : Program) (f : FuncId) (args : Array Value) (w : World) (R : Value → World → Prop) : Prop :=
  ∀ cs, ∃ v w' fr, R v w' ∧ Steps P (lone (Frame.enter P f args .normal) cs w) (lone fr cs w') ∧ fr.fn = f ∧ fr.leaving P w' (.returned v)
theorem Ret.mono {args : Array Value} {R' : Value → World → Prop} (h : Ret P f args w R) (hr : ∀ v w, R v w → R' v w) : Ret P f args w R' := fun cs =>
  let ⟨v, w', fr, r, s⟩ := h cs; ⟨v, w', fr, hr _ _ r, s⟩
theorem Ret.calls {args : Array Value} (h : Ret P f args w R) : Calls P f args w (fun e w' => ∃ v, e = .returned v ∧ R v w') := fun cs =>
  let ⟨v, w', fr, r, a, b, c⟩ := h cs; ⟨.returned v, w', fr, ⟨v, rfl, r⟩, a, b, c⟩
theorem Ret.of_calls {args : Array Value} (h : Calls P f args w (fun e w' => ∃ v, e = .returned v ∧ R v w')) : Ret P f args w R := fun cs => by
  obtain ⟨e, w', fr, ⟨v, rfl, r⟩, a, b, c⟩ := h cs
  exact ⟨v, w', fr, r, a, b, c⟩

def startEnv : Nat → List Value → Env
  | _, [] => []
  | i, v :: r => (i, v) :: startEnv (i + 1) r
theorem startEnv_get : ∀ (l : List Value) (i t : Nat) (v : Value), Env.get (startEnv i l) t = some v → i ≤ t ∧ l[t - i]? = some v := by
  intro l
  induction l with
  | nil => intro i t v h; simp [startEnv, Env.get] at h
  | cons x r ih =>
    intro i t v h
    simp only [startEnv] at h
    rw [Env.get_cons] at h
    by_cases hi : i = t
    · subst hi; simp at h; subst h; simp
    · simp [hi] at h
      obtain ⟨h1, h2⟩ := ih (i + 1) t v h
      refine ⟨by omega, ?_⟩
      have : t - i = (t - (i + 1)) + 1 := by omega
      rw [this]; simpa using h2
theorem Ret_of {fn : Func} {c : Code} {l : List Value} {m : Nat} (hf : P.funcs[f]? = some fn) (hb : fn.body = some c) (hm : fn.ntmps = m) (hl : l.length ≤ m)
    (h : J P f none m R [.code c] [] (startEnv 0 l) w) : Ret P f l.toArray w R := by
  have henter : Frame.enter P f l.toArray .normal = (base f none).atR ⟨l.toArray ++ Array.replicate (m - l.length) undef, []⟩ [.code c] := by
    simp [Frame.enter, Frame.atR, hf, hb, base, hm]
  intro cs
  obtain ⟨v, w', fr, w'', hR, hs, hfn, hw, hl⟩ := h (l.toArray ++ Array.replicate (m - l.length) undef) cs (by simp; omega) (fun t v ht => by
    obtain ⟨_, h2⟩ := startEnv_get l 0 t v ht
    have hlt : t < l.length := by simpa using (List.getElem?_eq_some_iff.1 h2).1
    rw [Array.getElem?_append_left (by simpa using hlt)]
    simpa using h2)
  subst hw
  exact ⟨v, w', fr, hR, by rw [henter]; exact hs, hfn, hl⟩

/-- A function value, called with these arguments. -/
def NextOk (P : Program) (S : Value → World → Prop) : Next → World → Prop
  | .enter g as, w => Ret P g as w S
  | .round l g tmps assign body, w => ∀ c cs, ∃ v w', S v w' ∧ Steps P (lone (Frame.round l g tmps assign body .normal) (c :: cs) w) (lone (c.finish v) cs w')
  | .value v, w => S v w
  | .skip, w => S undef w
  | _, _ => False
def RetV (P : Program) (fv : Value) (args : Array Value) (w : World) (S : Value → World → Prop) : Prop :=
  ∃ d nx w1, (Deferred.ofValue fv args).run P w = .ok d w ∧ (invoke d.target d.args).run P w = .ok nx w1 ∧ NextOk P S nx w1
theorem NextOk.mono {S S' : Value → World → Prop} {nx : Next} (h : NextOk P S nx w) (hs : ∀ v w, S v w → S' v w) : NextOk P S' nx w := by
  cases nx <;> simp only [NextOk] at h ⊢
  case enter => exact h.mono hs
  case round => exact fun c cs => let ⟨v, w', r, s⟩ := h c cs; ⟨v, w', hs _ _ r, s⟩
  case value => exact hs _ _ h
  case skip => exact hs _ _ h
theorem RetV.mono {fv : Value} {args : Array Value} {S S' : Value → World → Prop} (h : RetV P fv args w S) (hs : ∀ v w, S v w → S' v w) : RetV P fv args w S' :=
  let ⟨d, nx, w1, a, b, c⟩ := h; ⟨d, nx, w1, a, b, c.mono hs⟩
/-- Calling function g enters it. -/
def Enters (P : Program) (g : FuncId) : Prop := ∀ args w, (callFunc g args).run P w = .ok (.enter g args) w
theorem enters_of {g : FuncId} {fn : Func} (h : P.funcs[g]? = some fn) (hn : (fn.name == "runtime.NumGoroutine") = false) (hb : fn.body.isNone = false) : Enters P g := by
  intro args w
  simp only [callFunc, Sem.run_bind, run_program, Result.andThen_ok, h, hn, hb, Bool.false_eq_true, if_false, Sem.run_pure]
theorem Ret.value {g : FuncId} {args cap : Array Value} {S : Value → World → Prop} (he : Enters P g) (h : Ret P g (args ++ cap) w S) : RetV P (.func (.func g) #[] cap) args w S := by
  refine ⟨{ target := .fn (.func g) cap, args := args }, .enter g (args ++ cap), w, ?_, ?_, h⟩
  · simp [Deferred.ofValue]
  · simp only [invoke]; exact he _ _
end
end Go.Eng
