/- The engine, part 2: regions; one rule for each operation that leaves the world alone; calls. -/
import Derived.Test.YtcoldgkhlkjjmaaGreatE1
import Derived.IntWalk
namespace Go.Eng
section
variable {P : Program} {f : FuncId} {ro : Option Nat} {n : Nat} {R : Value → World → Prop} {k : List Item} {ds : List Deferred} {env env' : Env} {w w' : World}
variable {ops : Array Oper} {os : List Oper}

/-- The operations os are what is left of the region ops. -/
def JL (P : Program) (f : FuncId) (ro : Option Nat) (n : Nat) (R : Value → World → Prop) (ops : Array Oper) (os : List Oper) (k : List Item) (ds : List Deferred) (env : Env) (w : World) : Prop :=
  ∀ l : List Nat, l.map (fun i => ops[i]?) = os.map some → J P f ro n R (.inRegion ops l :: k) ds env w

theorem JL_nil (h : J P f ro n R k ds env w) : JL P f ro n R ops [] k ds env w := fun l hl => by
  have : l = [] := by simpa using hl
  subst this
  exact .same (fun _ _ _ _ => .one stepR_region_end) h
theorem J_region {id : Nat} {l : List Oper} (h : JL P f ro n R l.toArray l k ds env w) : J P f ro n R (.code (.region id l.toArray false) :: k) ds env w :=
  .same (fun _ _ _ _ => .one stepR_region) (h _ (by
    apply List.ext_getElem?
    intro i
    simp only [List.getElem?_map, List.size_toArray]
    by_cases hi : i < l.length
    · simp [hi]
    · simp [List.getElem?_eq_none (show (List.range l.length).length ≤ i by simp; omega), List.getElem?_eq_none (show l.length ≤ i by omega)]))

/-- The state before one operation. -/
def J1 (P : Program) (f : FuncId) (ro : Option Nat) (n : Nat) (R : Value → World → Prop) (ops : Array Oper) (o : Oper) (l : List Nat) (k : List Item) (ds : List Deferred) (env : Env) (w : World) : Prop :=
  ∀ i, ops[i]? = some o → J P f ro n R (.inRegion ops (i :: l) :: k) ds env w
theorem JL_cons {o : Oper} (h : ∀ l, l.map (fun i => ops[i]?) = os.map some → J1 P f ro n R ops o l k ds env w) : JL P f ro n R ops (o :: os) k ds env w := by
  intro l hl
  cases l with
  | nil => simp at hl
  | cons i r =>
    simp only [List.map_cons, List.cons.injEq] at hl
    exact h r hl.2 i hl.1

theorem put_eq (tmps : Array Value) (d : Option Nat) (v : Value) : (Act.put ⟨tmps, ds⟩ d v).tmps = (Act.put ⟨tmps, []⟩ d v).tmps := put_tmps ..
/-! ### One operation -/
theorem eval_ds (tmps : Array Value) (ds : List Deferred) : Act.eval ⟨tmps, ds⟩ = Act.eval ⟨tmps, []⟩ := funext fun x => by cases x <;> rfl
/-- The known slots that the operation looks at hold what env says. -/
def MatchOn (o : Oper) (tmps : Array Value) (env : Env) : Prop := ∀ t v, Operand.tmp t ∈ o.op.operands → Env.get env t = some v → tmps[t]? = some v
theorem Match.on {tmps : Array Value} {env : Env} (h : Match tmps env) (o : Oper) : MatchOn o tmps env := fun t v _ ht => h t v ht
/-- What one operation does in world w, the known slots being env. -/
def OpR (P : Program) (env : Env) (o : Oper) (w : World) (S : Value → World → Prop) : Prop :=
  ∃ nx w1, NextOk P S nx w1 ∧ ∀ tmps, Match tmps env → (execOp (Act.eval ⟨tmps, []⟩) o).run P w = .ok nx w1
theorem OpR.mono {o : Oper} {S S' : Value → World → Prop} (h : OpR P env o w S) (hs : ∀ v w, S v w → S' v w) : OpR P env o w S' :=
  let ⟨nx, w1, a, b⟩ := h; ⟨nx, w1, a.mono hs, b⟩
theorem OpR.val {o : Oper} {v : Value} {S : Value → World → Prop} (h : ∀ tmps, Match tmps env → (execOp (Act.eval ⟨tmps, []⟩) o).run P w = .ok (.value v) w') (hS : S v w') : OpR P env o w S := ⟨.value v, w', hS, h⟩
theorem OpR.unit {o : Oper} {S : Value → World → Prop} (h : ∀ tmps, Match tmps env → (execOp (Act.eval ⟨tmps, []⟩) o).run P w = .ok .skip w') (hS : S undef w') : OpR P env o w S := ⟨.skip, w', hS, h⟩
theorem OpR.on {o : Oper} {S : Value → World → Prop} (hsel : ∀ cs b, o.op ≠ .select cs b) (h : OpR P env o w S) :
    ∃ nx w1, NextOk P S nx w1 ∧ ∀ tmps, MatchOn o tmps env → (execOp (Act.eval ⟨tmps, []⟩) o).run P w = .ok nx w1 := by
  obtain ⟨nx, w1, hn, hr⟩ := h
  refine ⟨nx, w1, hn, fun tmps hm => ?_⟩
  obtain ⟨N, hN⟩ : ∃ N, ∀ t v, Env.get env t = some v → t < N := by
    clear hn hr hm
    induction env with
    | nil => exact ⟨0, fun t v h => by simp [Env.get] at h⟩
    | cons x r ih =>
      obtain ⟨N, hN⟩ := ih
      obtain ⟨s, u⟩ := x
      refine ⟨max N (s + 1), fun t v h => ?_⟩
      rw [Env.get_cons] at h
      by_cases hs : s = t
      · omega
      · simp [hs] at h; have := hN t v h; omega
  let tm : Array Value := Array.ofFn (n := max N tmps.size) fun i => (Env.get env i).getD (tmps.getD i undef)
  have htm : Match tm env := fun t v h => by
    have hlt := hN t v h
    have : t < max N tmps.size := by omega
    simp [tm, this, h]
  have hcong : execOp (Act.eval ⟨tmps, []⟩) o = execOp (Act.eval ⟨tm, []⟩) o := by
    refine execOp_congr o hsel fun x hx => ?_
    cases x with
    | tmp t =>
      simp only [Act.eval]
      by_cases hlt : t < max N tmps.size
      · cases hg : Env.get env t with
        | some v => have := hm t v hx hg; simp [tm, Array.getD_eq_getD_getElem?, this, hlt, hg]
        | none => simp [tm, Array.getD_eq_getD_getElem?, hlt, hg]
      · have h2 : ¬ t < tmps.size := fun h => hlt (Nat.lt_of_lt_of_le h (Nat.le_max_right _ _))
        have h3 : tm.size = max N tmps.size := by simp [tm]
        simp only [Array.getD_eq_getD_getElem?]
        rw [Array.getElem?_eq_none (Nat.not_lt.1 h2), Array.getElem?_eq_none (by rw [h3]; exact Nat.not_lt.1 hlt)]
    | _ => rfl
  rw [hcong]; exact hr tm htm

/-- One operation of a region, carried out. -/
theorem op_step {o : Oper} {i : Nat} {l : List Nat} {tmps : Array Value} {nx : Next} {w1 : World} {S : Value → World → Prop} (hi : ops[i]? = some o)
    (hw : Region.wanted o (yielded ops tmps) = true) (hs : ∀ c, o.op ≠ .defer c) (hrun : (execOp (Act.eval ⟨tmps, []⟩) o).run P w = .ok nx w1) (hn : NextOk P S nx w1) (cs : List Frame) :
    ∃ v w', S v w' ∧ Steps P (lone ((base f ro).atR ⟨tmps, ds⟩ (.inRegion ops (i :: l) :: k)) cs w) (lone ((base f ro).atR ⟨(Act.put ⟨tmps, []⟩ o.dst v).tmps, ds⟩ (.inRegion ops l :: k)) cs w') := by
  have hg' := stepGR_op (P := P) (b := base f ro) (a := ⟨tmps, ds⟩) (k := k) (cs := cs) (w := w) (rest := l) hi hw
  rw [Oper.semAt_eq _ _ _ hs, eval_ds] at hg'
  have hfin : ∀ v, ((base f ro).atR ⟨tmps, ds⟩ (.inRegion ops (i :: l) :: k)).finish v = (base f ro).atR ⟨(Act.put ⟨tmps, []⟩ o.dst v).tmps, ds⟩ (.inRegion ops l :: k) := fun v => by
    have hf := Frame.finish_atR (base f ro) ⟨tmps, ds⟩ ops i l k v
    rw [hi] at hf
    simp only [Option.bind_some] at hf
    rw [put_eta] at hf
    exact hf
  cases nx with
  | value v =>
    refine ⟨v, w1, hn, .one (step_lone_go ?_)⟩
    rw [hg', ← hfin]
    simp [stepG.apply, Sem.runT_eq, hrun, GStep.bare_after]
  | skip =>
    refine ⟨undef, w1, hn, .one (step_lone_go ?_)⟩
    rw [hg', ← hfin]
    simp [stepG.apply, Sem.runT_eq, hrun, GStep.bare_after]
  | enter g as =>
    obtain ⟨v, w2, fr1, hS, hst, hfn, hlv⟩ := hn ((base f ro).atR ⟨tmps, ds⟩ (.inRegion ops (i :: l) :: k) :: cs)
    refine ⟨v, w2, hS, .head (step_lone_go ?_) (hst.trans (.one ?_))⟩
    · rw [hg']
      simp [stepG.apply, Sem.runT_eq, hrun, GStep.bare_after, Frame.atR]
    · rw [← hfin]; exact step_leave_returned hlv
  | round l' g tm as body =>
    obtain ⟨v, w2, hS, hst⟩ := hn ((base f ro).atR ⟨tmps, ds⟩ (.inRegion ops (i :: l) :: k)) cs
    rw [hfin] at hst
    refine ⟨v, w2, hS, .head (step_lone_go ?_) hst⟩
    rw [hg']
    simp [stepG.apply, Sem.runT_eq, hrun, GStep.bare_after, Frame.atR]
  | _ => exact hn.elim
theorem op_off {o : Oper} {i : Nat} {l : List Nat} {tmps : Array Value} (hi : ops[i]? = some o) (hw : Region.wanted o (yielded ops tmps) = false) (cs : List Frame) :
    Steps P (lone ((base f ro).atR ⟨tmps, ds⟩ (.inRegion ops (i :: l) :: k)) cs w) (lone ((base f ro).atR ⟨(Act.put ⟨tmps, []⟩ o.dst undef).tmps, ds⟩ (.inRegion ops l :: k)) cs w) := by
  have hs := stepR_op_skip (P := P) (b := base f ro) (a := ⟨tmps, ds⟩) (k := k) (cs := cs) (w := w) (ops := ops) (i := i) (rest := l) (by simp [hi, hw])
  rw [hi] at hs
  simp only [Option.bind_some] at hs
  rw [put_eta] at hs
  exact .one hs

/-! ### Guards -/
/-- What the guard's operation has yielded, by the known slots. -/
def gval (ops : Array Oper) (env : Env) (j : Nat) : Option Bool :=
  match ((ops[j]?).bind (·.dst)).bind (Env.get env) with
  | some (.bool b) => some b
  | _ => none
theorem gval_yielded {j : Nat} {b : Bool} {tmps : Array Value} (h : gval ops env j = some b) (hm : ∀ t v, (ops[j]?).bind (·.dst) = some t → Env.get env t = some v → tmps[t]? = some v) : yielded ops tmps j = some b := by
  unfold gval at h
  cases hd : (ops[j]?).bind (·.dst) with
  | none => simp [hd] at h
  | some t =>
    simp only [hd, Option.bind_some] at h
    cases hv : Env.get env t with
    | none => simp [hv] at h
    | some v =>
      have := hm t v hd hv
      simp only [hv] at h
      unfold yielded
      simp only [hd, Option.bind_some, this]
      exact h
/-- The guard's operation was not carried out. -/
def Gund (ops : Array Oper) (env : Env) (j : Nat) : Prop := ((ops[j]?).bind (·.dst)).bind (Env.get env) = some undef
theorem gund_yielded {j : Nat} {tmps : Array Value} (h : Gund ops env j) (hm : ∀ t v, (ops[j]?).bind (·.dst) = some t → Env.get env t = some v → tmps[t]? = some v) : yielded ops tmps j = none := by
  unfold Gund at h
  cases hd : (ops[j]?).bind (·.dst) with
  | none => simp [hd] at h
  | some t =>
    simp only [hd, Option.bind_some] at h
    have := hm t undef hd h
    unfold yielded
    simp only [hd, Option.bind_some, this]
    rfl

def dstOk (n : Nat) (o : Oper) : Bool := match o.dst with | none => true | some t => Nat.blt t n
theorem dstOk_lt {o : Oper} (h : dstOk n o = true) : ∀ t, o.dst = some t → t < n := fun t ht => by
  simpa [dstOk, ht] using h
def notDefer : Op → Bool | .defer _ => false | .select _ _ => false | _ => true

/-- The next operation, in the text's order: no guard. -/
theorem JL_op {dst : Option Tmp} {op : Op} {ty : TypeId} {pos : String} {af : Array Edge} {S : Value → World → Prop} (h : OpR P env ⟨dst, op, ty, pos, af, none⟩ w S)
    (hk : ∀ v w', S v w' → JL P f ro n R ops os k ds (put env dst v) w') (hd : dstOk n ⟨dst, op, ty, pos, af, none⟩ = true := by rfl) (hs : notDefer op = true := by rfl) :
    JL P f ro n R ops (⟨dst, op, ty, pos, af, none⟩ :: os) k ds env w := by
  refine JL_cons fun l hl i hi tmps cs hn hm => ?_
  obtain ⟨nx, w1, hnx, hr⟩ := h
  obtain ⟨v, w2, hS, hst⟩ := op_step (ds := ds) (k := k) (f := f) (ro := ro) (l := l) hi (by simp [Region.wanted]) (by intro c hc; simp only at hc; subst hc; simp [notDefer] at hs) (hr tmps hm) hnx cs
  obtain ⟨v', w', fr, w'', hR, hs', hf⟩ := hk v w2 hS l hl _ cs (by rw [put_size]; exact hn) (hm.put (by rw [hn]; exact dstOk_lt hd) v)
  exact ⟨v', w', fr, w'', hR, hst.trans hs', hf⟩
/-- The next operation, guarded: wanted. -/
theorem JL_on {dst : Option Tmp} {op : Op} {ty : TypeId} {pos : String} {af : Array Edge} {j : Nat} {u b : Bool} {S : Value → World → Prop} (hg : gval ops env j = some b) (hb : b = u) (h : OpR P env ⟨dst, op, ty, pos, af, some (j, u)⟩ w S)
    (hk : ∀ v w', S v w' → JL P f ro n R ops os k ds (put env dst v) w') (hd : dstOk n ⟨dst, op, ty, pos, af, some (j, u)⟩ = true := by rfl) (hs : notDefer op = true := by rfl) :
    JL P f ro n R ops (⟨dst, op, ty, pos, af, some (j, u)⟩ :: os) k ds env w := by
  refine JL_cons fun l hl i hi tmps cs hn hm => ?_
  obtain ⟨nx, w1, hnx, hr⟩ := h
  obtain ⟨v, w2, hS, hst⟩ := op_step (ds := ds) (k := k) (f := f) (ro := ro) (l := l) hi (by simp [Region.wanted, gval_yielded hg (fun t v _ ht => hm t v ht), hb]) (by intro c hc; simp only at hc; subst hc; simp [notDefer] at hs) (hr tmps hm) hnx cs
  obtain ⟨v', w', fr, w'', hR, hs', hf⟩ := hk v w2 hS l hl _ cs (by rw [put_size]; exact hn) (hm.put (by rw [hn]; exact dstOk_lt hd) v)
  exact ⟨v', w', fr, w'', hR, hst.trans hs', hf⟩
/-- The next operation, guarded: not wanted. -/
theorem JL_off {dst : Option Tmp} {op : Op} {ty : TypeId} {pos : String} {af : Array Edge} {j : Nat} {u b : Bool} (hg : gval ops env j = some b) (hb : b = !u)
    (hk : JL P f ro n R ops os k ds (put env dst undef) w) (hd : dstOk n ⟨dst, op, ty, pos, af, some (j, u)⟩ = true := by rfl) :
    JL P f ro n R ops (⟨dst, op, ty, pos, af, some (j, u)⟩ :: os) k ds env w := by
  refine JL_cons fun l hl i hi tmps cs hn hm => ?_
  have hst := op_off (P := P) (ds := ds) (k := k) (f := f) (ro := ro) (l := l) (w := w) (tmps := tmps) hi (by simp [Region.wanted, gval_yielded (tmps := tmps) hg (fun t v _ ht => hm t v ht), hb]) cs
  obtain ⟨v', w', fr, w'', hR, hs', hf⟩ := hk l hl _ cs (by rw [put_size]; exact hn) (hm.put (by rw [hn]; exact dstOk_lt hd) undef)
  exact ⟨v', w', fr, w'', hR, hst.trans hs', hf⟩
theorem JL_und {dst : Option Tmp} {op : Op} {ty : TypeId} {pos : String} {af : Array Edge} {j : Nat} {u : Bool} (hg : Gund ops env j)
    (hk : JL P f ro n R ops os k ds (put env dst undef) w) (hd : dstOk n ⟨dst, op, ty, pos, af, some (j, u)⟩ = true := by rfl) :
    JL P f ro n R ops (⟨dst, op, ty, pos, af, some (j, u)⟩ :: os) k ds env w := by
  refine JL_cons fun l hl i hi tmps cs hn hm => ?_
  have hst := op_off (P := P) (ds := ds) (k := k) (f := f) (ro := ro) (l := l) (w := w) (tmps := tmps) hi (by simp [Region.wanted, gund_yielded (tmps := tmps) hg (fun t v _ ht => hm t v ht)]) cs
  obtain ⟨v', w', fr, w'', hR, hs', hf⟩ := hk l hl _ cs (by rw [put_size]; exact hn) (hm.put (by rw [hn]; exact dstOk_lt hd) undef)
  exact ⟨v', w', fr, w'', hR, hst.trans hs', hf⟩
end
end Go.Eng
