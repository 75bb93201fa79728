/- The engine, part 6: short ways for walks: pure steps, leaving, tests. -/
import Derived.Test.YtcoldgkhlkjjmaaGreatE5
namespace Go.Eng
open Go.RowKit
section
variable {P : Program} {f : FuncId} {ro : Option Nat} {n : Nat} {R : Value → World → Prop} {k : List Item} {ds : List Deferred} {env env0 : Env} {w w0 : World} {F : Nat → Prop} {L : List HP}
variable {ops : Array Oper} {os : List Oper} {T : List Nat} {X : Nat → Prop} {D : List (Nat × Value)} {σ : List (Nat × Bool)} {τ : List Nat}
variable {dst : Option Tmp} {op : Op} {ty : TypeId} {pos : String} {af : Array Edge} {v : Value}

/-- It yields v and leaves the world. -/
def Is (v : Value) (w : World) : Value → World → Prop := fun v' w' => v' = v ∧ w' = w
theorem is_rfl : Is v w v w := ⟨rfl, rfl⟩
theorem JL_pure {t : Nat} (h : OpR P env ⟨some t, op, ty, pos, af, none⟩ w (Is v w)) (hd : Nat.blt t n = true) (hs : notDefer op = true) (hk : JL P f ro n R ops os k ds ((t, v) :: env) w) :
    JL P f ro n R ops (⟨some t, op, ty, pos, af, none⟩ :: os) k ds env w := JL_op h (fun _ _ ⟨e1, e2⟩ => by rw [e1, e2]; exact hk) hd hs
theorem JL_o {t : Nat} {S : Value → World → Prop} (h : OpR P env ⟨some t, op, ty, pos, af, none⟩ w S) (hd : Nat.blt t n = true) (hs : notDefer op = true) (hk : ∀ v w', S v w' → JL P f ro n R ops os k ds ((t, v) :: env) w') :
    JL P f ro n R ops (⟨some t, op, ty, pos, af, none⟩ :: os) k ds env w := JL_op h hk hd hs
theorem JL_u {S : Value → World → Prop} (h : OpR P env ⟨none, op, ty, pos, af, none⟩ w S) (hs : notDefer op = true) (hk : ∀ v w', S v w' → JL P f ro n R ops os k ds env w') :
    JL P f ro n R ops (⟨none, op, ty, pos, af, none⟩ :: os) k ds env w := JL_op h hk rfl hs
theorem JL_o_on {t : Nat} {j : Nat} {u b : Bool} {S : Value → World → Prop} (hg : gval ops env j = some b) (hb : b = u) (h : OpR P env ⟨some t, op, ty, pos, af, some (j, u)⟩ w S) (hd : Nat.blt t n = true) (hs : notDefer op = true) (hk : ∀ v w', S v w' → JL P f ro n R ops os k ds ((t, v) :: env) w') :
    JL P f ro n R ops (⟨some t, op, ty, pos, af, some (j, u)⟩ :: os) k ds env w := JL_on hg hb h hk hd hs
theorem JL_no {t : Nat} {j : Nat} {u b : Bool} (hg : gval ops env j = some b) (hb : b = !u) (hd : Nat.blt t n = true) (hk : JL P f ro n R ops os k ds ((t, undef) :: env) w) :
    JL P f ro n R ops (⟨some t, op, ty, pos, af, some (j, u)⟩ :: os) k ds env w := JL_off hg hb hk hd
theorem JL_nou {t : Nat} {j : Nat} {u : Bool} (hg : Gund ops env j) (hd : Nat.blt t n = true) (hk : JL P f ro n R ops os k ds ((t, undef) :: env) w) :
    JL P f ro n R ops (⟨some t, op, ty, pos, af, some (j, u)⟩ :: os) k ds env w := JL_und hg hk hd
theorem JL_pure_on {t : Nat} {j : Nat} {u b : Bool} (hg : gval ops env j = some b) (hb : b = u) (h : OpR P env ⟨some t, op, ty, pos, af, some (j, u)⟩ w (Is v w)) (hd : Nat.blt t n = true) (hs : notDefer op = true) (hk : JL P f ro n R ops os k ds ((t, v) :: env) w) :
    JL P f ro n R ops (⟨some t, op, ty, pos, af, some (j, u)⟩ :: os) k ds env w := JL_on hg hb h (fun _ _ ⟨e1, e2⟩ => by rw [e1, e2]; exact hk) hd hs
/-- Split on a guard's value. -/
theorem JL_split {j : Nat} {u b : Bool} (hg : gval ops env j = some b) (ht : b = u → JL P f ro n R ops (⟨dst, op, ty, pos, af, some (j, u)⟩ :: os) k ds env w) (hf : b = !u → JL P f ro n R ops (⟨dst, op, ty, pos, af, some (j, u)⟩ :: os) k ds env w) :
    JL P f ro n R ops (⟨dst, op, ty, pos, af, some (j, u)⟩ :: os) k ds env w := by
  cases b <;> cases u <;> first | exact ht rfl | exact hf rfl
theorem JL_split_dec {j : Nat} {u : Bool} {p : Prop} [Decidable p] (_ : gval ops env j = some (decide p)) (ht : p → JL P f ro n R ops (⟨dst, op, ty, pos, af, some (j, u)⟩ :: os) k ds env w) (hf : ¬ p → JL P f ro n R ops (⟨dst, op, ty, pos, af, some (j, u)⟩ :: os) k ds env w) :
    JL P f ro n R ops (⟨dst, op, ty, pos, af, some (j, u)⟩ :: os) k ds env w := by
  by_cases h : p
  · exact ht h
  · exact hf h
theorem J_cond_dec {c : Operand} {x y : Code} {p : Prop} [Decidable p] (hc : ev env c = some (.bool (decide p))) (ht : p → J P f ro n R (.code x :: k) ds env w) (hf : ¬ p → J P f ro n R (.code y :: k) ds env w) :
    J P f ro n R (.code (.cond c x y) :: k) ds env w := J_cond hc (fun h => ht (of_decide_eq_true h)) (fun h => hf (of_decide_eq_false h))
theorem J_dec_t {c : Operand} {x y : Code} {p : Prop} [Decidable p] (hc : ev env c = some (.bool (decide p))) (hp : p) (ht : J P f ro n R (.code x :: k) ds env w) : J P f ro n R (.code (.cond c x y) :: k) ds env w := J_cond_dec hc (fun _ => ht) (fun h => absurd hp h)
theorem J_dec_f {c : Operand} {x y : Code} {p : Prop} [Decidable p] (hc : ev env c = some (.bool (decide p))) (hp : ¬ p) (hf : J P f ro n R (.code y :: k) ds env w) : J P f ro n R (.code (.cond c x y) :: k) ds env w := J_cond_dec hc (fun h => absurd h hp) (fun _ => hf)
theorem J_cond_t {c : Operand} {x y : Code} {b : Bool} (hc : ev env c = some (.bool b)) (hb : b = true) (ht : J P f ro n R (.code x :: k) ds env w) : J P f ro n R (.code (.cond c x y) :: k) ds env w := J_cond hc (fun _ => ht) (fun h => by rw [hb] at h; cases h)
theorem J_cond_f {c : Operand} {x y : Code} {b : Bool} (hc : ev env c = some (.bool b)) (hb : b = false) (hf : J P f ro n R (.code y :: k) ds env w) : J P f ro n R (.code (.cond c x y) :: k) ds env w := J_cond hc (fun h => by rw [hb] at h; cases h) (fun _ => hf)

theorem J.to {todo : List Item} {env' : Env} (hj : J P f ro n R todo ds env' w) (hs : Sub env' env) : J P f ro n R todo ds env w := J.sub hs hj
/-! Calls. -/
theorem OpR_call {cal : Operand} {args : List Operand} {at_ : Array TypeId} {gd : Option (Nat × Bool)} {fv : Value} {avs : List Value} {S : Value → World → Prop} (hc : ev env cal = some fv) (ha : evs env args = some avs) (hv : RetV P fv avs.toArray w S) :
    OpR P env ⟨dst, .call ⟨.value cal, args.toArray, at_⟩, ty, pos, af, gd⟩ w S := by
  obtain ⟨d, nx, w1, h1, h2, h3⟩ := hv
  refine ⟨nx, w1, h3, fun tmps hm => ?_⟩
  simp only [execOp, resolve, hm.eval hc, evs_map hm ha, Sem.run_bind, h1, Result.andThen_ok, h2]
theorem OpR_callF {g : FuncId} {args : List Operand} {at_ : Array TypeId} {gd : Option (Nat × Bool)} {avs : List Value} {S : Value → World → Prop} (he : Enters P g) (ha : evs env args = some avs) (hv : Ret P g avs.toArray w S) :
    OpR P env ⟨dst, .call ⟨.value (.func g), args.toArray, at_⟩, ty, pos, af, gd⟩ w S := OpR_call rfl ha (Ret.value he (by simpa using hv))
/-- A closure of function g. -/
theorem RetV.closure {g : FuncId} {avs cap : List Value} {S : Value → World → Prop} (he : Enters P g) (hv : Ret P g (avs ++ cap).toArray w S) : RetV P (.func (.func g) #[] cap.toArray) avs.toArray w S := Ret.value he (by simpa using hv)

/-! Leaving. -/
inductive ResOk (P : Program) (env : Env) (w : World) : List ResultVar → List Value → Prop
  | nil : ResOk P env w [] []
  | tmp {t : Nat} {v : Value} {l : List ResultVar} {vs : List Value} (h : Env.get env t = some v) (r : ResOk P env w l vs) : ResOk P env w (.tmp t :: l) (v :: vs)
  | cell {t T b s : Nat} {us : List Value} {l : List ResultVar} {vs : List Value} (A : Agg P T s) (h : Env.get env t = some (.pointer (some ⟨b, 0, none⟩))) (hl : us.length = s) (hc : ∀ j v, us[j]? = some v → w.cell? ⟨b, j, none⟩ = some v) (r : ResOk P env w l vs) :
      ResOk P env w (.cell t T :: l) (.agg us.toArray :: vs)
  | one {t T b : Nat} {v : Value} {l : List ResultVar} {vs : List Value} (A : Scal P T) (h : Env.get env t = some (.pointer (some ⟨b, 0, none⟩))) (hc : w.cell? ⟨b, 0, none⟩ = some v) (r : ResOk P env w l vs) :
      ResOk P env w (.cell t T :: l) (v :: vs)
def mkRes : List Value → Value
  | [v] => v
  | vs => .tuple vs.toArray
def resOne (tmps : Array Value) : ResultVar → Sem Value
  | .tmp t => pure (tmps.getD t undef)
  | .cell a t => do loadVar t (← asAddr (tmps.getD a undef))
theorem getD_of {tmps : Array Value} {t : Nat} {v : Value} (h : tmps[t]? = some v) : tmps.getD t undef = v := by simp [Array.getD_eq_getD_getElem?, h]
theorem ResOk.run {l : List ResultVar} {vs : List Value} (h : ResOk P env w l vs) {tmps : Array Value} (hm : Match tmps env) {fn : Func} (hf : fn.results = l.toArray) : (results fn tmps).run P w = .ok (mkRes vs) w := by
  have key : (l.mapM (resOne tmps)).run P w = Result.ok vs w := by
    clear hf
    induction h with
    | nil => rfl
    | tmp h r ih => simp only [List.mapM_cons, Sem.run_bind, resOne, Sem.run_pure, Result.andThen_ok, ih, getD_of (hm _ _ h)]
    | @cell t T b s us l vs A h hl hc r ih =>
      have h2 := run_loadCells_list (P := P) w ⟨b, 0, none⟩ us (fun j v hv => by rw [add_eq, Nat.zero_add]; exact hc j v hv)
      rw [hl] at h2
      simp only [List.mapM_cons, Sem.run_bind, resOne, getD_of (hm _ _ h), asAddr, loadVar, isAgg_of A.h, sizeOf_of A.s, h2, ih, Sem.run_pure, Result.andThen_ok, if_true]
    | one A h hc r ih => simp only [List.mapM_cons, Sem.run_bind, resOne, getD_of (hm _ _ h), asAddr, loadVar, isAgg_of A.h, hc, ih, Sem.run_pure, Result.andThen_ok, Bool.false_eq_true, if_false, run_load]
  have e : results fn tmps = (do let vs ← fn.results.mapM (resOne tmps); pure (if h : vs.size = 1 then vs[0] else .tuple vs)) := rfl
  rw [e, hf]
  simp only [List.mapM_toArray, Sem.run_bind, Sem.run_map, key, Result.andThen_ok, Sem.run_pure]
  cases vs with
  | nil => rfl
  | cons v r =>
    cases r with
    | nil => rfl
    | cons u r => rfl
theorem ResOk.agg {t T b s e : Nat} {cs : Array Value} {fz : Nat × Nat} {us : List Value} {l : List ResultVar} {vs : List Value} [A : Agg P T s] (hs : St w0 F w L) (h : Env.get env t = some (.pointer (some ⟨b, 0, none⟩))) [m : BlkAt L b (.cells cs e fz)] (hcs : cs.toList = us) (hl : us.length = s) (r : ResOk P env w l vs) :
    ResOk P env w (.cell t T :: l) (.agg us.toArray :: vs) := .cell A h hl (fun j v hj => cell_blk hs.blk (by rw [hcs]; exact hj)) r
theorem ResOk.scal {t T b e : Nat} {cs : Array Value} {fz : Nat × Nat} {v : Value} {l : List ResultVar} {vs : List Value} [A : Scal P T] (hs : St w0 F w L) (h : Env.get env t = some (.pointer (some ⟨b, 0, none⟩))) [m : BlkAt L b (.cells cs e fz)] (hcs : cs.toList[0]? = some v) (r : ResOk P env w l vs) :
    ResOk P env w (.cell t T :: l) (v :: vs) := .one A h (cell_blk hs.blk hcs) r
theorem J_leave {fn : Func} {l : List ResultVar} {vs : List Value} (hf : P.funcs[f]? = some fn) (hl : fn.results = l.toArray) (h : ResOk P env w l vs) (hR : R (mkRes vs) w) : J P f none n R (.code .ret :: k) [] env w :=
  J_ret hf (fun _ hm => h.run hm hl) hR
theorem J_leave_end {fn : Func} {l : List ResultVar} {vs : List Value} (hf : P.funcs[f]? = some fn) (hl : fn.results = l.toArray) (h : ResOk P env w l vs) (hR : R (mkRes vs) w) : J P f none n R [] [] env w :=
  J_end hf (fun _ hm => h.run hm hl) hR

/-! Floats, in a region of open order: the value is told once, in whatever world. -/
theorem OpG_none {o : Oper} {S : Value → World → Prop} (hg : o.guard = none) (h : OpR P env o w S) : OpG P ops env o w S := by unfold OpG; rw [hg]; exact h
theorem OpG_on {o : Oper} {S : Value → World → Prop} {j : Nat} {u b : Bool} (hg : o.guard = some (j, u)) (hv : gval ops env j = some b) (hb : b = u) (h : OpR P env o w S) : OpG P ops env o w S := by unfold OpG; rw [hg]; exact .inl ⟨b, hv, .inl ⟨hb, h⟩⟩
theorem OpG_off {o : Oper} {S : Value → World → Prop} {j : Nat} {u b : Bool} (hg : o.guard = some (j, u)) (hv : gval ops env j = some b) (hb : b = !u) (h : S undef w) : OpG P ops env o w S := by unfold OpG; rw [hg]; exact .inl ⟨b, hv, .inr ⟨hb, h⟩⟩
theorem OpG_und {o : Oper} {S : Value → World → Prop} {j : Nat} {u : Bool} (hg : o.guard = some (j, u)) (hv : Gund ops env j) (h : S undef w) : OpG P ops env o w S := by unfold OpG; rw [hg]; exact .inr ⟨hv, h⟩
theorem JD_f {i t : Nat} {u : Value} (ho : ops[i]? = some ⟨some t, op, ty, pos, af, none⟩) (hs : St w0 F w L) (h : ∀ W, Ext w W → St w0 F W L → OpR P env ⟨some t, op, ty, pos, af, none⟩ W (Is u W)) (hnd : notDefer op = true)
    (hk : JD P f ro n R ops T NoF σ τ ((i, u) :: D) env0 k ds ((t, u) :: env) w) : JD P f ro n R ops T NoF ((i, false) :: σ) τ D env0 k ds env w :=
  JD_float ho hnd (fun W hE => OpG_none rfl (h W (hE.ext (fun _ h => h)) (hs.ext (hE.ext (fun _ h => h))))) hk
theorem JD_f_on {i t : Nat} {u : Value} {j : Nat} {c b : Bool} (ho : ops[i]? = some ⟨some t, op, ty, pos, af, some (j, c)⟩) (hv : gval ops env j = some b) (hb : b = c) (hs : St w0 F w L) (h : ∀ W, Ext w W → St w0 F W L → OpR P env ⟨some t, op, ty, pos, af, some (j, c)⟩ W (Is u W)) (hnd : notDefer op = true)
    (hk : JD P f ro n R ops T NoF σ τ ((i, u) :: D) env0 k ds ((t, u) :: env) w) : JD P f ro n R ops T NoF ((i, false) :: σ) τ D env0 k ds env w :=
  JD_float ho hnd (fun W hE => OpG_on rfl hv hb (h W (hE.ext (fun _ h => h)) (hs.ext (hE.ext (fun _ h => h))))) hk
theorem JD_f_off {i t : Nat} {j : Nat} {c b : Bool} (ho : ops[i]? = some ⟨some t, op, ty, pos, af, some (j, c)⟩) (hv : gval ops env j = some b) (hb : b = !c) (hnd : notDefer op = true)
    (hk : JD P f ro n R ops T X σ τ ((i, undef) :: D) env0 k ds ((t, undef) :: env) w) : JD P f ro n R ops T X ((i, false) :: σ) τ D env0 k ds env w :=
  JD_float ho hnd (fun _ _ => OpG_off rfl hv hb ⟨rfl, rfl⟩) hk
theorem JD_split {i : Nat} {o : Option Tmp} {j : Nat} {c b : Bool} {q : Bool} (_ : ops[i]? = some ⟨o, op, ty, pos, af, some (j, c)⟩) (_ : gval ops env j = some b)
    (ht : b = c → JD P f ro n R ops T X ((i, q) :: σ) τ D env0 k ds env w) (hf : b = !c → JD P f ro n R ops T X ((i, q) :: σ) τ D env0 k ds env w) : JD P f ro n R ops T X ((i, q) :: σ) τ D env0 k ds env w := by
  cases b <;> cases c <;> first | exact ht rfl | exact hf rfl
theorem JD_split_dec {i : Nat} {o : Option Tmp} {j : Nat} {c : Bool} {q : Bool} {p : Prop} [Decidable p] (_ : ops[i]? = some ⟨o, op, ty, pos, af, some (j, c)⟩) (_ : gval ops env j = some (decide p))
    (ht : p → JD P f ro n R ops T X ((i, q) :: σ) τ D env0 k ds env w) (hf : ¬ p → JD P f ro n R ops T X ((i, q) :: σ) τ D env0 k ds env w) : JD P f ro n R ops T X ((i, q) :: σ) τ D env0 k ds env w := by
  by_cases h : p
  · exact ht h
  · exact hf h
theorem JD_c {i t : Nat} {S : Value → World → Prop} (ho : ops[i]? = some ⟨some t, op, ty, pos, af, none⟩) (h : OpR P env ⟨some t, op, ty, pos, af, none⟩ w S) (hS : ∀ v w', S v w' → Ext w w') (hnd : notDefer op = true)
    (hk : ∀ v w', S v w' → JD P f ro n R ops T X σ τ ((i, v) :: D) env0 k ds ((t, v) :: env) w') : JD P f ro n R ops T X ((i, true) :: σ) τ D env0 k ds env w := JD_chain ho hnd (OpG_none rfl h) (fun v w' h => (hS v w' h).rl) hk
theorem JD_c_on {i t : Nat} {S : Value → World → Prop} {j : Nat} {c b : Bool} (ho : ops[i]? = some ⟨some t, op, ty, pos, af, some (j, c)⟩) (hv : gval ops env j = some b) (hb : b = c) (h : OpR P env ⟨some t, op, ty, pos, af, some (j, c)⟩ w S) (hS : ∀ v w', S v w' → Ext w w') (hnd : notDefer op = true)
    (hk : ∀ v w', S v w' → JD P f ro n R ops T X σ τ ((i, v) :: D) env0 k ds ((t, v) :: env) w') : JD P f ro n R ops T X ((i, true) :: σ) τ D env0 k ds env w := JD_chain ho hnd (OpG_on rfl hv hb h) (fun v w' h => (hS v w' h).rl) hk
theorem JD_c_off {i t : Nat} {j : Nat} {c b : Bool} (ho : ops[i]? = some ⟨some t, op, ty, pos, af, some (j, c)⟩) (hv : gval ops env j = some b) (hb : b = !c) (hnd : notDefer op = true)
    (hk : JD P f ro n R ops T X σ τ ((i, undef) :: D) env0 k ds ((t, undef) :: env) w) : JD P f ro n R ops T X ((i, true) :: σ) τ D env0 k ds env w :=
  JD_chain (S := Is undef w) ho hnd (OpG_off rfl hv hb is_rfl) (fun _ _ ⟨_, e⟩ => by rw [e]; exact Rl.refl _) (fun _ _ ⟨e1, e2⟩ => by rw [e1, e2]; exact hk)
/-- A float, where some blocks may be written meanwhile. -/
theorem JD_fx {i t : Nat} {u : Value} (ho : ops[i]? = some ⟨some t, op, ty, pos, af, none⟩) (h : ∀ W, Rl X w W → OpR P env ⟨some t, op, ty, pos, af, none⟩ W (Is u W)) (hnd : notDefer op = true)
    (hk : JD P f ro n R ops T X σ τ ((i, u) :: D) env0 k ds ((t, u) :: env) w) : JD P f ro n R ops T X ((i, false) :: σ) τ D env0 k ds env w :=
  JD_float ho hnd (fun W hE => OpG_none rfl (h W hE)) hk
/-- A store among what is in the chain. -/
theorem JD_cu {i : Nat} {S : Value → World → Prop} (ho : ops[i]? = some ⟨none, op, ty, pos, af, none⟩) (h : OpR P env ⟨none, op, ty, pos, af, none⟩ w S) (hS : ∀ v w', S v w' → Rl X w w') (hnd : notDefer op = true)
    (hk : ∀ v w', S v w' → JD P f ro n R ops T X σ τ ((i, v) :: D) env0 k ds env w') : JD P f ro n R ops T X ((i, true) :: σ) τ D env0 k ds env w := JD_chain ho hnd (OpG_none rfl h) hS hk
theorem as_move {S : Value → World → Prop} {gd : Option (Nat × Bool)} {x : Operand} (h : OpR P env ⟨dst, .move x, ty, pos, af, gd⟩ w S) : OpR P env ⟨dst, .move x, ty, pos, af, gd⟩ w S := h
theorem as_assign {S : Value → World → Prop} {gd : Option (Nat × Bool)} {x : Operand} (h : OpR P env ⟨dst, .assign x, ty, pos, af, gd⟩ w S) : OpR P env ⟨dst, .assign x, ty, pos, af, gd⟩ w S := h
theorem as_pick {S : Value → World → Prop} {gd : Option (Nat × Bool)} {c x y : Operand} (h : OpR P env ⟨dst, .pick c x y, ty, pos, af, gd⟩ w S) : OpR P env ⟨dst, .pick c x y, ty, pos, af, gd⟩ w S := h
theorem as_alloc {S : Value → World → Prop} {gd : Option (Nat × Bool)} {T : Nat} (h : OpR P env ⟨dst, .alloc T, ty, pos, af, gd⟩ w S) : OpR P env ⟨dst, .alloc T, ty, pos, af, gd⟩ w S := h
theorem as_box {S : Value → World → Prop} {gd : Option (Nat × Bool)} {T : Nat} {x : Operand} (h : OpR P env ⟨dst, .box T x, ty, pos, af, gd⟩ w S) : OpR P env ⟨dst, .box T x, ty, pos, af, gd⟩ w S := h
theorem as_load {S : Value → World → Prop} {gd : Option (Nat × Bool)} {T : Nat} {x : Operand} (h : OpR P env ⟨dst, .load T x, ty, pos, af, gd⟩ w S) : OpR P env ⟨dst, .load T x, ty, pos, af, gd⟩ w S := h
theorem as_store {S : Value → World → Prop} {gd : Option (Nat × Bool)} {T : Nat} {x y : Operand} (h : OpR P env ⟨dst, .store T x y, ty, pos, af, gd⟩ w S) : OpR P env ⟨dst, .store T x y, ty, pos, af, gd⟩ w S := h
theorem as_nilCheck {S : Value → World → Prop} {gd : Option (Nat × Bool)} {x : Operand} (h : OpR P env ⟨dst, .nilCheck x, ty, pos, af, gd⟩ w S) : OpR P env ⟨dst, .nilCheck x, ty, pos, af, gd⟩ w S := h
theorem as_unOp {S : Value → World → Prop} {gd : Option (Nat × Bool)} {o : UnOp} {T : Nat} {x : Operand} (h : OpR P env ⟨dst, .unOp o T x, ty, pos, af, gd⟩ w S) : OpR P env ⟨dst, .unOp o T x, ty, pos, af, gd⟩ w S := h
theorem as_convert {S : Value → World → Prop} {gd : Option (Nat × Bool)} {T T' : Nat} {x : Operand} (h : OpR P env ⟨dst, .convert T T' x, ty, pos, af, gd⟩ w S) : OpR P env ⟨dst, .convert T T' x, ty, pos, af, gd⟩ w S := h
theorem as_fieldAddr {S : Value → World → Prop} {gd : Option (Nat × Bool)} {T i : Nat} {x : Operand} (h : OpR P env ⟨dst, .fieldAddr T x i, ty, pos, af, gd⟩ w S) : OpR P env ⟨dst, .fieldAddr T x i, ty, pos, af, gd⟩ w S := h
theorem as_field {S : Value → World → Prop} {gd : Option (Nat × Bool)} {T i : Nat} {x : Operand} (h : OpR P env ⟨dst, .field T x i, ty, pos, af, gd⟩ w S) : OpR P env ⟨dst, .field T x i, ty, pos, af, gd⟩ w S := h
theorem as_indexAddr {S : Value → World → Prop} {gd : Option (Nat × Bool)} {T : Nat} {x y : Operand} (h : OpR P env ⟨dst, .indexAddr T x y, ty, pos, af, gd⟩ w S) : OpR P env ⟨dst, .indexAddr T x y, ty, pos, af, gd⟩ w S := h
theorem as_index {S : Value → World → Prop} {gd : Option (Nat × Bool)} {T : Nat} {x y : Operand} (h : OpR P env ⟨dst, .index T x y, ty, pos, af, gd⟩ w S) : OpR P env ⟨dst, .index T x y, ty, pos, af, gd⟩ w S := h
theorem as_extract {S : Value → World → Prop} {gd : Option (Nat × Bool)} {i : Nat} {x : Operand} (h : OpR P env ⟨dst, .extract x i, ty, pos, af, gd⟩ w S) : OpR P env ⟨dst, .extract x i, ty, pos, af, gd⟩ w S := h
theorem as_makeFunc {S : Value → World → Prop} {gd : Option (Nat × Bool)} {g : Fn} {a b : Array Operand} (h : OpR P env ⟨dst, .makeFunc g a b, ty, pos, af, gd⟩ w S) : OpR P env ⟨dst, .makeFunc g a b, ty, pos, af, gd⟩ w S := h
theorem as_slice {S : Value → World → Prop} {gd : Option (Nat × Bool)} {T : Nat} {x : Operand} {a b c : Option Operand} (h : OpR P env ⟨dst, .slice T x a b c, ty, pos, af, gd⟩ w S) : OpR P env ⟨dst, .slice T x a b c, ty, pos, af, gd⟩ w S := h
theorem as_build {S : Value → World → Prop} {gd : Option (Nat × Bool)} {T : Nat} {a : Array (Nat × Operand)} (h : OpR P env ⟨dst, .build T a, ty, pos, af, gd⟩ w S) : OpR P env ⟨dst, .build T a, ty, pos, af, gd⟩ w S := h
theorem as_buildSlice {S : Value → World → Prop} {gd : Option (Nat × Bool)} {T m : Nat} {a : Array (Nat × Operand)} (h : OpR P env ⟨dst, .buildSlice T m a, ty, pos, af, gd⟩ w S) : OpR P env ⟨dst, .buildSlice T m a, ty, pos, af, gd⟩ w S := h
theorem as_makeSlice {S : Value → World → Prop} {gd : Option (Nat × Bool)} {T : Nat} {x y : Operand} (h : OpR P env ⟨dst, .makeSlice T x y, ty, pos, af, gd⟩ w S) : OpR P env ⟨dst, .makeSlice T x y, ty, pos, af, gd⟩ w S := h
theorem as_binOp {S : Value → World → Prop} {gd : Option (Nat × Bool)} {o : BinOp} {T T' : Nat} {x y : Operand} (h : OpR P env ⟨dst, .binOp o T x y T', ty, pos, af, gd⟩ w S) : OpR P env ⟨dst, .binOp o T x y T', ty, pos, af, gd⟩ w S := h
theorem as_add {S : Value → World → Prop} {gd : Option (Nat × Bool)} {T T' : Nat} {x y : Operand} (h : OpR P env ⟨dst, .binOp .add T x y T', ty, pos, af, gd⟩ w S) : OpR P env ⟨dst, .binOp .add T x y T', ty, pos, af, gd⟩ w S := h
theorem as_sub {S : Value → World → Prop} {gd : Option (Nat × Bool)} {T T' : Nat} {x y : Operand} (h : OpR P env ⟨dst, .binOp .sub T x y T', ty, pos, af, gd⟩ w S) : OpR P env ⟨dst, .binOp .sub T x y T', ty, pos, af, gd⟩ w S := h
theorem as_mul {S : Value → World → Prop} {gd : Option (Nat × Bool)} {T T' : Nat} {x y : Operand} (h : OpR P env ⟨dst, .binOp .mul T x y T', ty, pos, af, gd⟩ w S) : OpR P env ⟨dst, .binOp .mul T x y T', ty, pos, af, gd⟩ w S := h
theorem as_builtin {S : Value → World → Prop} {gd : Option (Nat × Bool)} {b : Builtin} {a : Array Operand} {T : Array TypeId} (h : OpR P env ⟨dst, .call ⟨.builtin b, a, T⟩, ty, pos, af, gd⟩ w S) : OpR P env ⟨dst, .call ⟨.builtin b, a, T⟩, ty, pos, af, gd⟩ w S := h
theorem as_b_len {S : Value → World → Prop} {gd : Option (Nat × Bool)} {a : Array Operand} {T : Array TypeId} (h : OpR P env ⟨dst, .call ⟨.builtin .len, a, T⟩, ty, pos, af, gd⟩ w S) : OpR P env ⟨dst, .call ⟨.builtin .len, a, T⟩, ty, pos, af, gd⟩ w S := h
theorem as_b_append {S : Value → World → Prop} {gd : Option (Nat × Bool)} {a : Array Operand} {T : Array TypeId} (h : OpR P env ⟨dst, .call ⟨.builtin .append, a, T⟩, ty, pos, af, gd⟩ w S) : OpR P env ⟨dst, .call ⟨.builtin .append, a, T⟩, ty, pos, af, gd⟩ w S := h
theorem as_b_copy {S : Value → World → Prop} {gd : Option (Nat × Bool)} {a : Array Operand} {T : Array TypeId} (h : OpR P env ⟨dst, .call ⟨.builtin .copy, a, T⟩, ty, pos, af, gd⟩ w S) : OpR P env ⟨dst, .call ⟨.builtin .copy, a, T⟩, ty, pos, af, gd⟩ w S := h
theorem as_b_min {S : Value → World → Prop} {gd : Option (Nat × Bool)} {a : Array Operand} {T : Array TypeId} (h : OpR P env ⟨dst, .call ⟨.builtin .min, a, T⟩, ty, pos, af, gd⟩ w S) : OpR P env ⟨dst, .call ⟨.builtin .min, a, T⟩, ty, pos, af, gd⟩ w S := h
theorem as_b_max {S : Value → World → Prop} {gd : Option (Nat × Bool)} {a : Array Operand} {T : Array TypeId} (h : OpR P env ⟨dst, .call ⟨.builtin .max, a, T⟩, ty, pos, af, gd⟩ w S) : OpR P env ⟨dst, .call ⟨.builtin .max, a, T⟩, ty, pos, af, gd⟩ w S := h
theorem as_callF {S : Value → World → Prop} {gd : Option (Nat × Bool)} {g : FuncId} {a : Array Operand} {T : Array TypeId} (h : OpR P env ⟨dst, .call ⟨.value (.func g), a, T⟩, ty, pos, af, gd⟩ w S) : OpR P env ⟨dst, .call ⟨.value (.func g), a, T⟩, ty, pos, af, gd⟩ w S := h
theorem as_callV {S : Value → World → Prop} {gd : Option (Nat × Bool)} {t : Nat} {a : Array Operand} {T : Array TypeId} (h : OpR P env ⟨dst, .call ⟨.value (.tmp t), a, T⟩, ty, pos, af, gd⟩ w S) : OpR P env ⟨dst, .call ⟨.value (.tmp t), a, T⟩, ty, pos, af, gd⟩ w S := h
theorem aj_exit {i : Nat} (h : J P f ro n R (.code (.exit i) :: k) ds env w) : J P f ro n R (.code (.exit i) :: k) ds env w := h
theorem aj_cond {c : Operand} {x y : Code} (h : J P f ro n R (.code (.cond c x y) :: k) ds env w) : J P f ro n R (.code (.cond c x y) :: k) ds env w := h
theorem aj_draw {i : Nat} {o : Array Oper} (h : J P f ro n R (.code (.region i o true) :: k) ds env w) : J P f ro n R (.code (.region i o true) :: k) ds env w := h
theorem aj_ret  (h : J P f ro n R (.code .ret :: k) ds env w) : J P f ro n R (.code .ret :: k) ds env w := h
theorem aj_loop {x : Code} (h : J P f ro n R (.code (.loop x) :: k) ds env w) : J P f ro n R (.code (.loop x) :: k) ds env w := h
theorem aj_goto {i : Nat} (h : J P f ro n R (.code (.goto i) :: k) ds env w) : J P f ro n R (.code (.goto i) :: k) ds env w := h
theorem al_guard {j : Nat} {u : Bool} (h : JL P f ro n R ops (⟨dst, op, ty, pos, af, some (j, u)⟩ :: os) k ds env w) : JL P f ro n R ops (⟨dst, op, ty, pos, af, some (j, u)⟩ :: os) k ds env w := h
theorem al_none {t : Nat} (h : JL P f ro n R ops (⟨some t, op, ty, pos, af, none⟩ :: os) k ds env w) : JL P f ro n R ops (⟨some t, op, ty, pos, af, none⟩ :: os) k ds env w := h
theorem al_unit (h : JL P f ro n R ops (⟨none, op, ty, pos, af, none⟩ :: os) k ds env w) : JL P f ro n R ops (⟨none, op, ty, pos, af, none⟩ :: os) k ds env w := h
theorem ad_f {i : Nat} (h : JD P f ro n R ops T X ((i, false) :: σ) τ D env0 k ds env w) : JD P f ro n R ops T X ((i, false) :: σ) τ D env0 k ds env w := h
theorem ad_c {i : Nat} (h : JD P f ro n R ops T X ((i, true) :: σ) τ D env0 k ds env w) : JD P f ro n R ops T X ((i, true) :: σ) τ D env0 k ds env w := h
end
end Go.Eng
