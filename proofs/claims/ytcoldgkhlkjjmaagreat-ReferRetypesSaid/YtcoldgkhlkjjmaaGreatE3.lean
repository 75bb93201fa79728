/- The engine, part 3: a region that draws its order. Operations that hand back the same value in every world that only grew ('floats') and calls that only make memory ('chain'), in any order that the edges allow; behind them a tail in fixed order. -/
import Derived.Test.YtcoldgkhlkjjmaaGreatE2
import Derived.KernelRfl
namespace Go.Eng
open Go.RowKit (Below)
open Go.RowKit
structure Ext (w w' : World) : Prop where
  os : w'.os = w.os
  tape : w'.tape = w.tape
  output : w'.output = w.output
  size : w.heap.size ≤ w'.heap.size
  block : ∀ k, k < w.heap.size → w'.heap[k]? = w.heap[k]?
  drawn : w.drawn ≤ w'.drawn
theorem Ext.below {w w' : World} (h : Ext w w') : Below w.heap.size w w' := ⟨h.os, h.tape, h.output, h.size, h.block⟩
theorem Ext.of {w w' : World} (h : Below w.heap.size w w') (hd : w.drawn ≤ w'.drawn) : Ext w w' := ⟨h.os, h.tape, h.output, h.size, h.block, hd⟩
theorem Ext.refl (w : World) : Ext w w := ⟨rfl, rfl, rfl, Nat.le_refl _, fun _ _ => rfl, Nat.le_refl _⟩
theorem Ext.trans {a b c : World} (h : Ext a b) (k : Ext b c) : Ext a c :=
  ⟨k.os.trans h.os, k.tape.trans h.tape, k.output.trans h.output, Nat.le_trans h.size k.size, fun i hi => (k.block i (Nat.lt_of_lt_of_le hi h.size)).trans (h.block i hi), Nat.le_trans h.drawn k.drawn⟩
/-- As Ext, but for the blocks X. -/
structure Rl (X : Nat → Prop) (w w' : World) : Prop where
  os : w'.os = w.os
  tape : w'.tape = w.tape
  output : w'.output = w.output
  size : w.heap.size ≤ w'.heap.size
  old : ∀ k, k < w.heap.size → ¬ X k → w'.heap[k]? = w.heap[k]?
  drawn : w.drawn ≤ w'.drawn
theorem Rl.refl {X : Nat → Prop} (w : World) : Rl X w w := ⟨rfl, rfl, rfl, Nat.le_refl _, fun _ _ _ => rfl, Nat.le_refl _⟩
theorem Rl.trans {X : Nat → Prop} {a b c : World} (h : Rl X a b) (k : Rl X b c) : Rl X a c :=
  ⟨k.os.trans h.os, k.tape.trans h.tape, k.output.trans h.output, Nat.le_trans h.size k.size, fun i hi hx => (k.old i (Nat.lt_of_lt_of_le hi h.size) hx).trans (h.old i hi hx), Nat.le_trans h.drawn k.drawn⟩
theorem Ext.rl {X : Nat → Prop} {a b : World} (h : Ext a b) : Rl X a b := ⟨h.os, h.tape, h.output, h.size, fun k hk _ => h.block k hk, h.drawn⟩
theorem Rl.ext {X : Nat → Prop} {a b : World} (h : Rl X a b) (hX : ∀ k, ¬ X k) : Ext a b := ⟨h.os, h.tape, h.output, h.size, fun k hk => h.old k hk (hX k), h.drawn⟩
theorem Ext.drew (w : World) : Ext w { w with drawn := w.drawn + 1 } := ⟨rfl, rfl, rfl, Nat.le_refl _, fun _ _ => rfl, Nat.le_succ _⟩

/-! ### Which operation waits for which -/
def has (T : List Nat) (j i : Nat) : Bool := (T.getD j 0).testBit i
def bind1 (T : List Nat) (s : Nat) (e : Edge) : Nat := if Region.binds .any e then s ||| 2 ^ e.on ||| T.getD e.on 0 else s
def tabOk (ops : Array Oper) (T : List Nat) : Bool :=
  (List.range ops.size).all fun i => match ops[i]? with
    | some o => (o.after.toList.all fun e => !Region.binds .any e || Nat.blt e.on i) && (T.getD i 0 == o.after.toList.foldl (bind1 T) 0)
    | none => false
theorem foldl_bind1 (T : List Nat) : ∀ (es : List Edge) (s d : Nat), (es.foldl (bind1 T) s).testBit d = true → s.testBit d = true ∨ ∃ e ∈ es, Region.binds .any e = true ∧ (d = e.on ∨ has T e.on d = true) := by
  intro es
  induction es with
  | nil => intro s d h; exact .inl h
  | cons e r ih =>
    intro s d h
    simp only [List.foldl_cons] at h
    rcases ih _ _ h with h1 | ⟨e', he, hb⟩
    · unfold bind1 at h1
      split at h1
      · rename_i hb
        simp only [Nat.testBit_or, Bool.or_eq_true] at h1
        rcases h1 with (h1 | h1) | h1
        · exact .inl h1
        · refine .inr ⟨e, List.mem_cons_self, hb, .inl ?_⟩
          by_cases hd : e.on = d
          · exact hd.symm
          · rw [Nat.testBit_two_pow] at h1; simp [hd] at h1
        · exact .inr ⟨e, List.mem_cons_self, hb, .inr h1⟩
      · exact .inl h1
    · exact .inr ⟨e', List.mem_cons_of_mem _ he, hb⟩
section
variable {ops : Array Oper} {T : List Nat}
theorem tabOk_row (h : tabOk ops T = true) {i : Nat} {o : Oper} (ho : ops[i]? = some o) :
    (∀ e ∈ o.after, Region.binds .any e = true → e.on < i) ∧ ∀ d, has T i d = true → ∃ e ∈ o.after, Region.binds .any e = true ∧ (d = e.on ∨ has T e.on d = true) := by
  have h1 := List.all_eq_true.1 h i (List.mem_range.2 (Array.getElem?_eq_some_iff.1 ho).1)
  rw [ho] at h1
  simp only [Bool.and_eq_true, List.all_eq_true, Bool.or_eq_true, beq_iff_eq] at h1
  refine ⟨fun e he hb => ?_, fun d hd => ?_⟩
  · have := h1.1 e (by simpa using he)
    simp [hb] at this; exact this
  · unfold has at hd
    rw [h1.2] at hd
    rcases foldl_bind1 T _ _ _ hd with h2 | ⟨e, he, h2⟩
    · simp at h2
    · exact ⟨e, by simpa using he, h2⟩
/-- A set that holds all that its members wait for, holds all that they wait for in turn. -/
theorem closed_has (h : tabOk ops T = true) {S : Nat → Prop} (hS : ∀ i o, ops[i]? = some o → S i → ∀ e ∈ o.after, Region.binds .any e = true → S e.on) :
    ∀ (m i : Nat) (o : Oper), i < m → ops[i]? = some o → (∀ e ∈ o.after, Region.binds .any e = true → S e.on) → ∀ d, has T i d = true → S d := by
  intro m
  induction m with
  | zero => intro i o hi; omega
  | succ m ih =>
    intro i o hi ho hd d hb
    obtain ⟨hlt, hrow⟩ := tabOk_row h ho
    obtain ⟨e, he, hbe, hde⟩ := hrow d hb
    rcases hde with rfl | hde
    · exact hd e he hbe
    · have hei := hlt e he hbe
      have hilt : i < ops.size := (Array.getElem?_eq_some_iff.1 ho).1
      have hoe : ops[e.on]? = some ops[e.on] := Array.getElem?_eq_getElem (by omega)
      exact ih e.on _ (by omega) hoe (fun e' he' hb' => hS _ _ hoe (hd e he hbe) e' he' hb') d hde

theorem has_lt (h : tabOk ops T = true) : ∀ (m i : Nat), i < m → i < ops.size → ∀ d, has T i d = true → d < i := by
  intro m
  induction m with
  | zero => intro i hi; omega
  | succ m ih =>
    intro i him hi d hb
    have ho : ops[i]? = some ops[i] := Array.getElem?_eq_getElem hi
    obtain ⟨hlt, hrow⟩ := tabOk_row h ho
    obtain ⟨e, he, hbe, hde⟩ := hrow d hb
    have hei := hlt e he hbe
    rcases hde with rfl | hde
    · exact hei
    · have := ih e.on (by omega) (by omega) d hde; omega
/-- What a schedule is: each once, all of them, none behind what waits for it. -/
structure Sched (ops : Array Oper) (T : List Nat) (L : Nat → Prop) (l : List Nat) : Prop where
  lin : l.Pairwise (fun a b => has T a b = false)
  nodup : l.Nodup
  mem : ∀ i, i ∈ l ↔ i < ops.size ∧ ¬ L i
theorem sched_go (h : tabOk ops T = true) : ∀ (fuel t : Nat) (listed : Array Bool), listed.size = ops.size →
    (∀ i o, ops[i]? = some o → listed.getD i false = true → ∀ e ∈ o.after, Region.binds .any e = true → listed.getD e.on false = true) →
    ((List.range ops.size).filter (fun i => !listed.getD i false)).length ≤ fuel →
    Sched ops T (fun i => listed.getD i false = true) (Region.linearise.go .any ops fuel t listed []) := by
  intro fuel
  induction fuel with
  | zero =>
    intro t listed hsz hcl hf
    simp only [Region.linearise.go, List.reverse_nil]
    refine ⟨List.Pairwise.nil, List.nodup_nil, fun i => ?_⟩
    simp only [List.not_mem_nil, false_iff, not_and, Classical.not_not]
    intro hi
    have : (List.range ops.size).filter (fun i => !listed.getD i false) = [] := List.length_eq_zero_iff.1 (by omega)
    have := List.filter_eq_nil_iff.1 this i (List.mem_range.2 hi)
    simpa using this
  | succ fuel ih =>
    intro t listed hsz hcl hf
    simp only [Region.linearise.go]
    change Sched ops T _ (match (Region.ready .any ops listed)[t % (Region.ready .any ops listed).length]? with
      | some i => Region.linearise.go .any ops fuel (t / (Region.ready .any ops listed).length) (listed.setIfInBounds i true) [i]
      | none => [].reverse)
    cases hi : (Region.ready .any ops listed)[t % (Region.ready .any ops listed).length]? with
    | none =>
      have hnil : Region.ready .any ops listed = [] := by
        cases hr : Region.ready .any ops listed with
        | nil => rfl
        | cons x xs =>
          rw [hr] at hi
          have hlt : t % (x :: xs).length < (x :: xs).length := Nat.mod_lt _ (by simp)
          simp at hi
          simp at hlt
          omega
      simp only [List.reverse_nil]
      refine ⟨List.Pairwise.nil, List.nodup_nil, fun i => ?_⟩
      simp only [List.not_mem_nil, false_iff, not_and, Classical.not_not]
      -- all are listed
      have all : ∀ m i, i < m → i < ops.size → listed.getD i false = true := by
        intro m
        induction m with
        | zero => intro i hi; omega
        | succ m ihm =>
          intro i him hilt
          cases hl : listed.getD i false with
          | true => rfl
          | false =>
            exfalso
            have ho : ops[i]? = some ops[i] := Array.getElem?_eq_getElem hilt
            have hmem : i ∈ Region.ready .any ops listed := mem_ready.2 ⟨by
              rw [Array.getD_eq_getD_getElem?] at hl ⊢
              have : listed[i]? = some listed[i] := Array.getElem?_eq_getElem (by omega)
              rw [this] at hl ⊢
              simpa using hl, _, ho, fun e he hb => by
              have := (tabOk_row h ho).1 e he hb
              exact ihm e.on (by omega) (by omega)⟩
            rw [hnil] at hmem
            cases hmem
      exact fun hi => all (i + 1) i (by omega) hi
    | some i =>
      have hready := List.mem_of_getElem? hi
      obtain ⟨hun, o, ho, hall⟩ := mem_ready.1 hready
      have hilt : i < ops.size := (Array.getElem?_eq_some_iff.1 ho).1
      have hun' : listed.getD i false = false := by
        rw [Array.getD_eq_getD_getElem?] at hun ⊢
        have : listed[i]? = some listed[i] := Array.getElem?_eq_getElem (by omega)
        rw [this] at hun ⊢
        simpa using hun
      simp only []
      rw [linearise_go_acc, List.reverse_singleton, List.singleton_append]
      have hset : ∀ j, (listed.setIfInBounds i true).getD j false = (if j = i then true else listed.getD j false) := fun j => by
        by_cases hj : j = i
        · subst hj; simp [Array.getD_eq_getD_getElem?, show j < listed.size by omega]
        · simp only [Array.getD_eq_getD_getElem?, Array.getElem?_setIfInBounds_ne (Ne.symm hj), hj, if_false]
      have hcl' : ∀ j oj, ops[j]? = some oj → (listed.setIfInBounds i true).getD j false = true → ∀ e ∈ oj.after, Region.binds .any e = true → (listed.setIfInBounds i true).getD e.on false = true := by
        intro j oj hoj hl e he hb
        rw [hset] at hl ⊢
        split
        · rfl
        · split at hl
          · rename_i hji; subst hji; rw [ho] at hoj; cases hoj; exact hall e he hb
          · exact hcl j oj hoj hl e he hb
      have hS := ih (t / (Region.ready .any ops listed).length) (listed.setIfInBounds i true) (by simpa using hsz) hcl' (by
        have hcount : ((List.range ops.size).filter (fun j => !(listed.setIfInBounds i true).getD j false)).length < ((List.range ops.size).filter (fun j => !listed.getD j false)).length := by
          have e1 : (List.range ops.size).filter (fun j => !(listed.setIfInBounds i true).getD j false) = ((List.range ops.size).filter (fun j => !listed.getD j false)).filter (fun j => j != i) := by
            rw [List.filter_filter]
            congr 1
            funext j
            rw [hset]
            by_cases hj : j = i <;> simp [hj]
          rw [e1]
          refine List.length_filter_lt_length_iff_exists.2 ⟨i, List.mem_filter.2 ⟨List.mem_range.2 hilt, by simpa using hun'⟩, by simp⟩
        omega)
      refine ⟨List.Pairwise.cons (fun b hb => ?_) hS.lin, List.nodup_cons.2 ⟨fun hm => ?_, hS.nodup⟩, fun j => ?_⟩
      · cases hh : has T i b with
        | false => rfl
        | true =>
          exfalso
          have := closed_has h (S := fun d => listed.getD d false = true) (fun a oa hoa hla e he hb => hcl a oa hoa hla e he hb) (i + 1) i o (by omega) ho hall b hh
          have h2 := ((hS.mem b).1 hb).2
          rw [hset] at h2
          split at h2
          · simp at h2
          · exact h2 this
      · have := ((hS.mem i).1 hm).2
        rw [hset] at this; simp at this
      · simp only [List.mem_cons, hS.mem, hset]
        by_cases hj : j = i
        · subst hj; simp [hilt, hun']
        · simp [hj]
theorem sched_all (h : tabOk ops T = true) (t : Nat) : Sched ops T (fun _ => False) (Region.linearise .any ops t) := by
  have hS := sched_go h ops.size t (Array.replicate ops.size false) (by simp) (fun i o _ hl => by
    rw [Array.getD_eq_getD_getElem?] at hl
    by_cases hi : i < ops.size <;> simp [hi] at hl) (Nat.le_trans (List.length_filter_le _ _) (by simp))
  have e : ∀ i, ((Array.replicate ops.size false).getD i false = true) ↔ False := fun i => by
    rw [Array.getD_eq_getD_getElem?]
    by_cases hi : i < ops.size <;> simp [hi]
  exact ⟨hS.lin, hS.nodup, fun i => by rw [← e i]; exact hS.mem i⟩
end
/-! ### The judgement inside such a region -/
def slots (ops : Array Oper) (o : Oper) : List Nat :=
  (o.op.operands.toList.filterMap fun | .tmp t => some t | _ => none) ++ (match o.guard with | some (g, _) => ((ops[g]?).bind (·.dst)).toList | none => [])
def dstAt (ops : Array Oper) (i : Nat) : Option Nat := (ops[i]?).bind (·.dst)
/-- No slot is written twice; who reads a slot that another writes, comes before or behind it. -/
def namesOk (ops : Array Oper) (T : List Nat) : Bool :=
  (List.range ops.size).all fun j => match dstAt ops j with
    | none => true
    | some t => (List.range ops.size).all fun i => i == j || ((dstAt ops i != some t) && (!((ops[i]?).elim [] (slots ops)).contains t || has T i j || has T j i))
/-- σ: what is to be done, chain or float; D: what has been; τ: the tail. -/
def planOk (N : Nat) (T : List Nat) : List (Nat × Bool) → List Nat → List Nat → Bool
  | [], τ, D => (List.range N).all (fun i => D.contains i || τ.contains i) && tailOk τ D
  | (i, c) :: σ, τ, D => Nat.blt i N && !D.contains i && (List.range N).all (fun d => !has T i d || D.contains d) && (!c || (σ.all fun x => has T x.1 i) && τ.all fun x => has T x i) && planOk N T σ τ (i :: D)
where tailOk : List Nat → List Nat → Bool
  | [], _ => true
  | h :: τ, D => Nat.blt h N && !D.contains h && (D.all fun d => has T h d) && tailOk τ (h :: D)
def regOk (ops : Array Oper) (T : List Nat) (σ : List (Nat × Bool)) (τ : List Nat) : Bool := tabOk ops T && namesOk ops T && planOk ops.size T σ τ []

section
variable {P : Program} {f : FuncId} {ro : Option Nat} {n : Nat} {R : Value → World → Prop} {k : List Item} {ds : List Deferred} {env env0 : Env} {w w' : World}
variable {ops : Array Oper} {T : List Nat} {X : Nat → Prop} {D : List (Nat × Value)} {σ : List (Nat × Bool)} {τ : List Nat}

/-- The slots that operation o looks at, told by env, hold that. -/
def MatchG (ops : Array Oper) (o : Oper) (tmps : Array Value) (env : Env) : Prop := ∀ t v, t ∈ slots ops o → Env.get env t = some v → tmps[t]? = some v
theorem MatchG.on {o : Oper} {tmps : Array Value} (h : MatchG ops o tmps env) : MatchOn o tmps env := fun t v ht hv => h t v (List.mem_append_left _ (List.mem_filterMap.2 ⟨.tmp t, by simpa using ht, rfl⟩)) hv

/-- One operation with its guard, in a region: what it does. -/
def OpG (P : Program) (ops : Array Oper) (env : Env) (o : Oper) (w : World) (S : Value → World → Prop) : Prop :=
  match o.guard with
  | none => OpR P env o w S
  | some (j, u) => (∃ b, gval ops env j = some b ∧ ((b = u ∧ OpR P env o w S) ∨ (b = !u ∧ S undef w))) ∨ (Gund ops env j ∧ S undef w)
theorem OpG.mono {o : Oper} {S S' : Value → World → Prop} (h : OpG P ops env o w S) (hs : ∀ v w, S v w → S' v w) : OpG P ops env o w S' := by
  unfold OpG at *
  cases hg : o.guard with
  | none => rw [hg] at h; exact OpR.mono h hs
  | some g =>
    rw [hg] at h
    obtain ⟨j, u⟩ := g
    rcases h with ⟨b, hb, h | h⟩ | h
    · exact .inl ⟨b, hb, .inl ⟨h.1, h.2.mono hs⟩⟩
    · exact .inl ⟨b, hb, .inr ⟨h.1, hs _ _ h.2⟩⟩
    · exact .inr ⟨h.1, hs _ _ h.2⟩
theorem notDefer_select {op : Op} (h : notDefer op = true) : (∀ c, op ≠ .defer c) ∧ ∀ cs b, op ≠ .select cs b :=
  ⟨fun c hc => by subst hc; simp [notDefer] at h, fun cs b hc => by subst hc; simp [notDefer] at h⟩
theorem OpG.step {o : Oper} {i : Nat} {l : List Nat} {tmps : Array Value} {S : Value → World → Prop} (hi : ops[i]? = some o) (hnd : notDefer o.op = true) (h : OpG P ops env o w S) (hm : MatchG ops o tmps env) (cs : List Frame) :
    ∃ v w', S v w' ∧ Steps P (lone ((base f ro).atR ⟨tmps, ds⟩ (.inRegion ops (i :: l) :: k)) cs w) (lone ((base f ro).atR ⟨(Act.put ⟨tmps, []⟩ o.dst v).tmps, ds⟩ (.inRegion ops l :: k)) cs w') := by
  obtain ⟨h1, h2⟩ := notDefer_select hnd
  unfold OpG at h
  cases hg : o.guard with
  | none =>
    rw [hg] at h
    obtain ⟨nx, w1, hn, hr⟩ := OpR.on h2 h
    exact op_step hi (by simp [Region.wanted, hg]) h1 (hr tmps hm.on) hn cs
  | some g =>
    obtain ⟨j, u⟩ := g
    rw [hg] at h
    rcases h with ⟨b, hb, h⟩ | ⟨hu, h⟩
    case inr =>
      have hy : yielded ops tmps j = none := gund_yielded hu (fun t v ht hv => hm t v (List.mem_append_right _ (by simp [hg, ht])) hv)
      exact ⟨undef, w, h, op_off hi (by simp [Region.wanted, hg, hy]) cs⟩
    have hy : yielded ops tmps j = some b := gval_yielded hb (fun t v ht hv => hm t v (List.mem_append_right _ (by simp [hg, ht])) hv)
    rcases h with ⟨hbu, h⟩ | ⟨hbu, h⟩
    · obtain ⟨nx, w1, hn, hr⟩ := OpR.on h2 h
      exact op_step hi (by simp [Region.wanted, hg, hy, hbu]) h1 (hr tmps hm.on) hn cs
    · exact ⟨undef, w, h, op_off hi (by simp [Region.wanted, hg, hy, hbu]) cs⟩

/-- What slot t holds, the operations of l being still to come. -/
def TV (ops : Array Oper) (l : List Nat) (D : List (Nat × Value)) (env0 : Env) (t : Nat) (v : Value) : Prop :=
  (∃ i, (i, v) ∈ D ∧ i ∉ l ∧ dstAt ops i = some t) ∨ ((∀ i, dstAt ops i = some t → i ∈ l) ∧ Env.get env0 t = some v)
/-- An operation that is still to come, but whose value is told already: it yields that value in every world to come. -/
def Pend (P : Program) (ops : Array Oper) (T : List Nat) (X : Nat → Prop) (D : List (Nat × Value)) (env0 : Env) (i : Nat) (u : Value) (w : World) : Prop :=
  ∃ o e, ops[i]? = some o ∧ notDefer o.op = true ∧
    (∀ t v, t ∈ slots ops o → Env.get e t = some v → (∃ j, (j, v) ∈ D ∧ dstAt ops j = some t ∧ has T i j = true) ∨ ((∀ j, dstAt ops j = some t → j = i ∨ has T j i = true) ∧ Env.get env0 t = some v)) ∧
    ∀ W, Rl X w W → OpG P ops e o W (fun v w' => v = u ∧ w' = W)
structure Inv (P : Program) (ops : Array Oper) (T : List Nat) (X : Nat → Prop) (n : Nat) (l : List Nat) (σ : List Nat) (D : List (Nat × Value)) (env0 : Env) (tmps : Array Value) (w : World) : Prop where
  lin : l.Pairwise (fun a b => has T a b = false)
  nodup : l.Nodup
  part : ∀ i, i ∈ l → i < ops.size ∧ (i ∈ σ ∨ i ∈ D.map (·.1))
  rest : ∀ i ∈ σ, i ∈ l
  closed : ∀ j, j < ops.size → j ∉ l → ∀ d, has T j d = true → d ∉ l
  size : tmps.size = n
  tm : ∀ t v, TV ops l D env0 t v → tmps[t]? = some v
  pend : ∀ i u, (i, u) ∈ D → i ∈ l → Pend P ops T X D env0 i u w
/-- What is known of the known slots and the operations that are told. -/
structure Node (ops : Array Oper) (T : List Nat) (n : Nat) (D : List (Nat × Value)) (env0 env : Env) : Prop where
  keys : (D.map (·.1)).Nodup
  lt : ∀ i, i ∈ D.map (·.1) → i < ops.size
  deps : ∀ i, i ∈ D.map (·.1) → ∀ d, d < ops.size → has T i d = true → d ∈ D.map (·.1)
  env : ∀ t v, Env.get env t = some v → (∃ i, (i, v) ∈ D ∧ dstAt ops i = some t) ∨ ((∀ i, i ∈ D.map (·.1) → dstAt ops i ≠ some t) ∧ Env.get env0 t = some v)
  dst : ∀ (i : Nat) (o : Oper), ops[i]? = some o → dstOk n o = true

def JD (P : Program) (f : FuncId) (ro : Option Nat) (n : Nat) (R : Value → World → Prop) (ops : Array Oper) (T : List Nat) (X : Nat → Prop) (σ : List (Nat × Bool)) (τ : List Nat) (D : List (Nat × Value)) (env0 : Env) (k : List Item) (ds : List Deferred) (env : Env) (w : World) : Prop :=
  tabOk ops T = true → namesOk ops T = true → planOk ops.size T σ τ (D.map (·.1)) = true → Node ops T n D env0 env →
    ∀ l tmps cs, Inv P ops T X n l (σ.map (·.1) ++ τ) D env0 tmps w →
      ∃ v w' fr w'', R v w' ∧ Steps P (lone ((base f ro).atR ⟨tmps, ds⟩ (.inRegion ops l :: k)) cs w) (lone fr cs w'') ∧ Fin P f ro fr cs w'' v w'

theorem names_at (h : namesOk ops T = true) {i j t : Nat} {o : Oper} (hj : dstAt ops j = some t) (hi : ops[i]? = some o) (hne : i ≠ j) : dstAt ops i ≠ some t ∧ (t ∈ slots ops o → has T i j = true ∨ has T j i = true) := by
  have hjl : j < ops.size := by
    unfold dstAt at hj
    cases hx : ops[j]? with
    | none => simp [hx] at hj
    | some x => exact (Array.getElem?_eq_some_iff.1 hx).1
  have h1 := List.all_eq_true.1 h j (List.mem_range.2 hjl)
  rw [hj] at h1
  simp only [List.all_eq_true] at h1
  have h2 := h1 i (List.mem_range.2 (Array.getElem?_eq_some_iff.1 hi).1)
  simp only [hi, Option.elim, Bool.or_eq_true, beq_iff_eq, hne, false_or, Bool.and_eq_true, bne_iff_ne, ne_eq, Bool.not_eq_true', List.contains_eq_mem, decide_eq_false_iff_not] at h2
  refine ⟨h2.1, fun ht => ?_⟩
  rcases h2.2 with (h3 | h3) | h3
  · exact absurd ht h3
  · exact .inl h3
  · exact .inr h3

/-- The operation at the head of what is to come finds in its slots what env tells. -/
theorem Inv.matches {l l' : List Nat} {σ' : List Nat} {tmps : Array Value} {i : Nat} {o : Oper} {e : Env} (hT : tabOk ops T = true) (hI : Inv P ops T X n l' σ' D env0 tmps w) (hl : l' = i :: l) (hi : ops[i]? = some o)
    (hr : ∀ t v, t ∈ slots ops o → Env.get e t = some v → (∃ j, (j, v) ∈ D ∧ dstAt ops j = some t ∧ has T i j = true) ∨ ((∀ j, dstAt ops j = some t → j = i ∨ has T j i = true) ∧ Env.get env0 t = some v)) : MatchG ops o tmps e := by
  subst hl
  intro t v ht hv
  refine hI.tm t v ?_
  rcases hr t v ht hv with ⟨j, hj, hd, hh⟩ | ⟨h1, h2⟩
  · refine .inl ⟨j, hj, fun hm => ?_, hd⟩
    rcases List.mem_cons.1 hm with rfl | hm
    · have := has_lt hT (j + 1) j (by omega) (Array.getElem?_eq_some_iff.1 hi).1 j hh; omega
    · have := (List.pairwise_cons.1 hI.lin).1 j hm; rw [hh] at this; cases this
  · refine .inr ⟨fun j hj => ?_, h2⟩
    rcases h1 j hj with rfl | h3
    · exact List.mem_cons_self
    · refine Classical.byContradiction fun hn => ?_
      have hjl : j < ops.size := by
        unfold dstAt at hj
        cases hx : ops[j]? with
        | none => simp [hx] at hj
        | some x => exact (Array.getElem?_eq_some_iff.1 hx).1
      exact hI.closed j hjl hn i h3 List.mem_cons_self
theorem key_val (hk : (D.map (·.1)).Nodup) {i : Nat} {u v : Value} (h1 : (i, u) ∈ D) (h2 : (i, v) ∈ D) : u = v := by
  induction D with
  | nil => cases h1
  | cons x r ih =>
    simp only [List.map_cons, List.nodup_cons] at hk
    rcases List.mem_cons.1 h1 with e1 | k1 <;> rcases List.mem_cons.1 h2 with e2 | k2
    · rw [← e1] at e2; cases e2; rfl
    · subst e1; exact (hk.1 (List.mem_map.2 ⟨(i, v), k2, rfl⟩)).elim
    · subst e2; exact (hk.1 (List.mem_map.2 ⟨(i, u), k1, rfl⟩)).elim
    · exact ih hk.2 k1 k2
/-- What an operation that is about to be told reads, put so that it holds whenever it comes up. -/
theorem Node.reads (hN : namesOk ops T = true) (nd : Node ops T n D env0 env) {i : Nat} {o : Oper} (hi : ops[i]? = some o) (hD : i ∉ D.map (·.1)) (hdeps : ∀ d, d < ops.size → has T i d = true → d ∈ D.map (·.1)) :
    ∀ t v, t ∈ slots ops o → Env.get env t = some v → (∃ j, (j, v) ∈ D ∧ dstAt ops j = some t ∧ has T i j = true) ∨ ((∀ j, dstAt ops j = some t → j = i ∨ has T j i = true) ∧ Env.get env0 t = some v) := by
  have hil : i < ops.size := (Array.getElem?_eq_some_iff.1 hi).1
  intro t v ht hv
  rcases nd.env t v hv with ⟨j, hj, hd⟩ | ⟨h1, h2⟩
  · refine .inl ⟨j, hj, hd, ?_⟩
    have hjD : j ∈ D.map (·.1) := List.mem_map.2 ⟨_, hj, rfl⟩
    have hne : i ≠ j := fun e => hD (e ▸ hjD)
    rcases (names_at hN hd hi hne).2 ht with h | h
    · exact h
    · exact absurd (nd.deps j hjD i hil h) hD
  · refine .inr ⟨fun j hj => ?_, h2⟩
    by_cases hne : i = j
    · exact .inl hne.symm
    · rcases (names_at hN hj hi hne).2 ht with h | h
      · have hjl : j < ops.size := by
          unfold dstAt at hj
          cases hx : ops[j]? with
          | none => simp [hx] at hj
          | some x => exact (Array.getElem?_eq_some_iff.1 hx).1
        exact absurd hj (h1 j (hdeps j hjl h))
      · exact .inr h
theorem Pend.ext {i : Nat} {u : Value} (h : Pend P ops T X D env0 i u w) (he : Rl X w w') : Pend P ops T X D env0 i u w' :=
  let ⟨o, e, a, b, c, d⟩ := h; ⟨o, e, a, b, c, fun W hW => d W (he.trans hW)⟩
theorem Pend.more {i : Nat} {u : Value} (h : Pend P ops T X D env0 i u w) (x : Nat × Value) : Pend P ops T X (x :: D) env0 i u w :=
  let ⟨o, e, a, b, c, d⟩ := h; ⟨o, e, a, b, fun t v ht hv => (c t v ht hv).imp (fun ⟨j, h1, h2⟩ => ⟨j, List.mem_cons_of_mem _ h1, h2⟩) id, d⟩
/-- A slot's value behind one operation more. -/
theorem tv_step (hN : namesOk ops T = true) (hkey : (D.map (·.1)).Nodup) {i : Nat} {l : List Nat} {o : Oper} {u : Value} {tmps : Array Value} (hi : ops[i]? = some o) (hnot : i ∉ l) (hu : (i, u) ∈ D) (hlt : ∀ t, o.dst = some t → t < tmps.size)
    (h : ∀ t v, TV ops (i :: l) D env0 t v → tmps[t]? = some v) : ∀ t v, TV ops l D env0 t v → (Act.put ⟨tmps, []⟩ o.dst u).tmps[t]? = some v := by
  intro t v htv
  have hdi : dstAt ops i = o.dst := by simp [dstAt, hi]
  by_cases hd : o.dst = some t
  · -- this very slot
    have hval : v = u := by
      rcases htv with ⟨j, hj, hjl, hjd⟩ | ⟨h1, _⟩
      · by_cases hne : i = j
        · subst hne; exact key_val hkey hj hu
        · exact absurd (hdi.trans hd) (names_at hN hjd hi hne).1
      · exact absurd (h1 i (hdi.trans hd)) hnot
    subst hval
    have := hlt t hd
    simp [Act.put, hd, this]
  · have hsame : (Act.put ⟨tmps, []⟩ o.dst u).tmps[t]? = tmps[t]? := by
      cases hx : o.dst with
      | none => rfl
      | some s =>
        have hne : s ≠ t := fun e => hd (by rw [hx, e])
        simp [Act.put, Array.getElem?_setIfInBounds_ne hne]
    rw [hsame]
    refine h t v ?_
    rcases htv with ⟨j, hj, hjl, hjd⟩ | ⟨h1, h2⟩
    · refine .inl ⟨j, hj, fun hm => ?_, hjd⟩
      rcases List.mem_cons.1 hm with rfl | hm
      · exact hd (hdi.symm.trans hjd)
      · exact hjl hm
    · exact .inr ⟨fun j hj => List.mem_cons_of_mem _ (h1 j hj), h2⟩
/-- One that is told already, and comes up. -/
theorem Inv.pendStep {l : List Nat} {σ' : List Nat} {tmps : Array Value} {i : Nat} (hT : tabOk ops T = true) (hN : namesOk ops T = true) (nd : Node ops T n D env0 env) (hI : Inv P ops T X n (i :: l) σ' D env0 tmps w) (hD : i ∈ D.map (·.1)) (hσ : i ∉ σ') (cs : List Frame) :
    ∃ tmps', Inv P ops T X n l σ' D env0 tmps' w ∧ Steps P (lone ((base f ro).atR ⟨tmps, ds⟩ (.inRegion ops (i :: l) :: k)) cs w) (lone ((base f ro).atR ⟨tmps', ds⟩ (.inRegion ops l :: k)) cs w) := by
  obtain ⟨⟨i', u⟩, hu, rfl⟩ := List.mem_map.1 hD
  obtain ⟨o, e, hi, hnd, hr, hG⟩ := hI.pend i' u hu List.mem_cons_self
  have hm := Inv.matches hT hI rfl hi hr
  obtain ⟨v, w2, ⟨rfl, rfl⟩, hst⟩ := OpG.step (f := f) (ro := ro) (ds := ds) (k := k) (l := l) hi hnd (hG w (Rl.refl w)) hm cs
  have hnot : i' ∉ l := (List.nodup_cons.1 hI.nodup).1
  have hlt : ∀ t, o.dst = some t → t < tmps.size := by rw [hI.size]; exact dstOk_lt (nd.dst i' o hi)
  refine ⟨_, ⟨(List.pairwise_cons.1 hI.lin).2, (List.nodup_cons.1 hI.nodup).2, fun j hj => hI.part j (List.mem_cons_of_mem _ hj), fun j hj => ?_, fun j hjl hj d hd hdl => ?_, by rw [put_size]; exact hI.size, tv_step hN nd.keys hi hnot hu hlt hI.tm, fun j x hj hjl => hI.pend j x hj (List.mem_cons_of_mem _ hjl)⟩, hst⟩
  · rcases List.mem_cons.1 (hI.rest j hj) with rfl | h
    · exact absurd hj hσ
    · exact h
  · by_cases hji : j = i'
    · subst hji; have := (List.pairwise_cons.1 hI.lin).1 d hdl; rw [hd] at this; cases this
    · exact hI.closed j hjl (fun hm => by rcases List.mem_cons.1 hm with h | h; exact hji h; exact hj h) d hd (List.mem_cons_of_mem _ hdl)
/-- All that is told already and comes up ahead of c, is done: c is at the head, or nothing is left. -/
theorem Inv.flush {l : List Nat} {σ' : List Nat} {tmps : Array Value} (hT : tabOk ops T = true) (hN : namesOk ops T = true) (nd : Node ops T n D env0 env) (hI : Inv P ops T X n l σ' D env0 tmps w) (cs : List Frame) :
    ∃ l' tmps', (l' = [] ∨ ∃ i r, l' = i :: r ∧ i ∈ σ') ∧ Inv P ops T X n l' σ' D env0 tmps' w ∧ Steps P (lone ((base f ro).atR ⟨tmps, ds⟩ (.inRegion ops l :: k)) cs w) (lone ((base f ro).atR ⟨tmps', ds⟩ (.inRegion ops l' :: k)) cs w) := by
  induction l generalizing tmps with
  | nil => exact ⟨[], tmps, .inl rfl, hI, Steps.refl _ _⟩
  | cons i r ih =>
    by_cases hi : i ∈ σ'
    · exact ⟨i :: r, tmps, .inr ⟨i, r, rfl, hi⟩, hI, Steps.refl _ _⟩
    · have hD : i ∈ D.map (·.1) := ((hI.part i List.mem_cons_self).2).resolve_left hi
      obtain ⟨tmps1, hI1, hs1⟩ := Inv.pendStep (f := f) (ro := ro) (ds := ds) (k := k) hT hN nd hI hD hi cs
      obtain ⟨l', tmps2, hl', hI2, hs2⟩ := ih hI1
      exact ⟨l', tmps2, hl', hI2, hs1.trans hs2⟩

theorem plan_head {N : Nat} {i : Nat} {c : Bool} {D : List Nat} (h : planOk N T ((i, c) :: σ) τ D = true) :
    i < N ∧ i ∉ D ∧ (∀ d, d < N → has T i d = true → d ∈ D) ∧ (c = true → (∀ x ∈ σ, has T x.1 i = true) ∧ ∀ x ∈ τ, has T x i = true) ∧ planOk N T σ τ (i :: D) = true := by
  simp only [planOk, Bool.and_eq_true, Bool.not_eq_true', List.contains_eq_mem, decide_eq_false_iff_not, List.all_eq_true, List.mem_range, Bool.or_eq_true, decide_eq_true_eq] at h
  obtain ⟨⟨⟨⟨h1, h2⟩, h3⟩, h4⟩, h5⟩ := h
  refine ⟨by simpa using h1, h2, fun d hd hh => ?_, fun hc => ?_, h5⟩
  · rcases h3 d hd with h | h
    · rw [hh] at h; cases h
    · exact h
  · rcases h4 with h | h
    · rw [hc] at h; cases h
    · exact ⟨fun x hx => h.1 x hx, fun x hx => h.2 x hx⟩
theorem put_get (env : Env) (d : Option Nat) (v : Value) (t : Nat) : Env.get (put env d v) t = if d = some t then some v else Env.get env t := by
  cases d with
  | none => simp [put]
  | some s => simp only [put]; rw [Env.get_cons]; by_cases h : s = t <;> simp [h]
theorem Node.more (nd : Node ops T n D env0 env) {i : Nat} {o : Oper} {u : Value} (hi : ops[i]? = some o) (hD : i ∉ D.map (·.1)) (hdeps : ∀ d, d < ops.size → has T i d = true → d ∈ D.map (·.1)) :
    Node ops T n ((i, u) :: D) env0 (put env o.dst u) := by
  have hdi : dstAt ops i = o.dst := by simp [dstAt, hi]
  refine ⟨by simp only [List.map_cons, List.nodup_cons]; exact ⟨hD, nd.keys⟩, fun j hj => ?_, fun j hj d hd hh => ?_, fun t v hv => ?_, nd.dst⟩
  · rcases List.mem_cons.1 hj with rfl | hj
    · exact (Array.getElem?_eq_some_iff.1 hi).1
    · exact nd.lt j hj
  · rcases List.mem_cons.1 hj with rfl | hj
    · exact List.mem_cons_of_mem _ (hdeps d hd hh)
    · exact List.mem_cons_of_mem _ (nd.deps j hj d hd hh)
  · rw [put_get] at hv
    by_cases hd : o.dst = some t
    · simp [hd] at hv; subst hv
      exact .inl ⟨i, List.mem_cons_self, hdi.trans hd⟩
    · simp only [hd, if_false] at hv
      rcases nd.env t v hv with ⟨j, hj, hjd⟩ | ⟨h1, h2⟩
      · exact .inl ⟨j, List.mem_cons_of_mem _ hj, hjd⟩
      · refine .inr ⟨fun j hj => ?_, h2⟩
        rcases List.mem_cons.1 hj with rfl | hj
        · rw [hdi]; exact hd
        · exact h1 j hj
/-- A float: it yields u here and in every world that only grew. -/
theorem JD_float {i : Nat} {o : Oper} {u : Value} (ho : ops[i]? = some o) (hnd : notDefer o.op = true) (h : ∀ W, Rl X w W → OpG P ops env o W (fun v w' => v = u ∧ w' = W))
    (hk : JD P f ro n R ops T X σ τ ((i, u) :: D) env0 k ds (put env o.dst u) w) : JD P f ro n R ops T X ((i, false) :: σ) τ D env0 k ds env w := by
  intro hT hN hp nd l tmps cs hI
  obtain ⟨hil, hD, hdeps, _, hp'⟩ := plan_head hp
  have hl : i ∈ l := hI.rest i (by simp)
  have hr := nd.reads hN ho hD hdeps
  refine hk hT hN hp' (nd.more ho hD hdeps) l tmps cs ⟨hI.lin, hI.nodup, fun j hj => ⟨(hI.part j hj).1, ?_⟩, fun j hj => hI.rest j (by simp only [List.map_cons, List.cons_append, List.mem_cons]; exact .inr hj), hI.closed, hI.size, fun t v htv => hI.tm t v ?_, fun j x hj hjl => ?_⟩
  · rcases (hI.part j hj).2 with h1 | h1
    · simp only [List.map_cons, List.cons_append, List.mem_cons] at h1
      rcases h1 with rfl | h1
      · exact .inr (by simp)
      · exact .inl h1
    · exact .inr (List.mem_cons_of_mem _ h1)
  · rcases htv with ⟨j, hj, hjl, hjd⟩ | h1
    · rcases List.mem_cons.1 hj with e | hj
      · cases e; exact absurd hl hjl
      · exact .inl ⟨j, hj, hjl, hjd⟩
    · exact .inr h1
  · rcases List.mem_cons.1 hj with e | hj
    · cases e
      exact ⟨o, env, ho, hnd, fun t v ht hv => (hr t v ht hv).imp (fun ⟨j, h1, h2⟩ => ⟨j, List.mem_cons_of_mem _ h1, h2⟩) id, h⟩
    · exact (hI.pend j x hj hjl).more _
/-- A chain's operation: all that is to come waits for it. -/
theorem JD_chain {i : Nat} {o : Oper} {S : Value → World → Prop} (ho : ops[i]? = some o) (hnd : notDefer o.op = true) (h : OpG P ops env o w S) (hS : ∀ v w', S v w' → Rl X w w')
    (hk : ∀ v w', S v w' → JD P f ro n R ops T X σ τ ((i, v) :: D) env0 k ds (put env o.dst v) w') : JD P f ro n R ops T X ((i, true) :: σ) τ D env0 k ds env w := by
  intro hT hN hp nd l tmps cs hI
  obtain ⟨hil, hD, hdeps, hch, hp'⟩ := plan_head hp
  obtain ⟨hc1, hc2⟩ := hch rfl
  obtain ⟨l', tmps1, hl', hI1, hs1⟩ := Inv.flush (f := f) (ro := ro) (ds := ds) (k := k) hT hN nd hI cs
  have hin : i ∈ l' := hI1.rest i (by simp)
  obtain ⟨r, rfl⟩ : ∃ r, l' = i :: r := by
    rcases hl' with rfl | ⟨j, r, rfl, hj⟩
    · cases hin
    · refine ⟨r, ?_⟩
      rcases List.mem_cons.1 hin with rfl | hin
      · rfl
      · have hne := (List.pairwise_cons.1 hI1.lin).1 i hin
        simp only [List.map_cons, List.cons_append, List.mem_cons, List.mem_append, List.mem_map] at hj
        rcases hj with rfl | ⟨x, hx, rfl⟩ | hx
        · exact absurd hin (List.nodup_cons.1 hI1.nodup).1
        · rw [hc1 x hx] at hne; cases hne
        · rw [hc2 j hx] at hne; cases hne
  have hm := Inv.matches hT hI1 rfl ho (nd.reads hN ho hD hdeps)
  obtain ⟨v, w2, hSv, hst⟩ := OpG.step (f := f) (ro := ro) (ds := ds) (k := k) (l := r) ho hnd h hm cs
  have hE := hS v w2 hSv
  have hnot : i ∉ r := (List.nodup_cons.1 hI1.nodup).1
  have nd' := nd.more (u := v) ho hD hdeps
  have hlt : ∀ t, o.dst = some t → t < tmps1.size := by rw [hI1.size]; exact dstOk_lt (nd.dst i o ho)
  have hI2 : Inv P ops T X n r (σ.map (·.1) ++ τ) ((i, v) :: D) env0 (Act.put ⟨tmps1, []⟩ o.dst v).tmps w2 := by
   refine ⟨(List.pairwise_cons.1 hI1.lin).2, (List.nodup_cons.1 hI1.nodup).2, fun j hj => ⟨(hI1.part j (List.mem_cons_of_mem _ hj)).1, ?_⟩, fun j hj => ?_,
     fun j hjl hj d hd hdl => ?_, by rw [put_size]; exact hI1.size, tv_step hN nd'.keys ho hnot List.mem_cons_self hlt (fun t u htv => hI1.tm t u ?_), fun j x hj hjl => ?_⟩
   · rcases (hI1.part j (List.mem_cons_of_mem _ hj)).2 with h1 | h1
     · simp only [List.map_cons, List.cons_append, List.mem_cons] at h1
       rcases h1 with rfl | h1
       · exact absurd hj hnot
       · exact .inl h1
     · exact .inr (List.mem_cons_of_mem _ h1)
   · have h1 := hI1.rest j (by simp only [List.map_cons, List.cons_append, List.mem_cons]; exact .inr hj)
     rcases List.mem_cons.1 h1 with rfl | h1
     · exfalso
       rcases List.mem_append.1 hj with hj | hj
       · obtain ⟨x, hx, rfl⟩ := List.mem_map.1 hj
         have := has_lt hT (x.1 + 1) x.1 (by omega) hil x.1 (hc1 x hx); omega
       · have := has_lt hT (j + 1) j (by omega) hil j (hc2 j hj); omega
     · exact h1
   · by_cases hji : j = i
     · subst hji; have := (List.pairwise_cons.1 hI1.lin).1 d hdl; rw [hd] at this; cases this
     · exact hI1.closed j hjl (fun hm => by rcases List.mem_cons.1 hm with h | h; exact hji h; exact hj h) d hd (List.mem_cons_of_mem _ hdl)
   · rcases htv with ⟨j, hj, hjl, hjd⟩ | h1
     · rcases List.mem_cons.1 hj with e | hj
       · cases e; exact absurd List.mem_cons_self hjl
       · exact .inl ⟨j, hj, hjl, hjd⟩
     · exact .inr h1
   · rcases List.mem_cons.1 hj with e | hj
     · cases e; exact absurd hjl hnot
     · exact ((hI1.pend j x hj (List.mem_cons_of_mem _ hjl)).ext hE).more _
  obtain ⟨v', w', fr, w'', hR, hs', hf⟩ := hk v w2 hSv hT hN hp' nd' r _ cs hI2
  exact ⟨v', w', fr, w'', hR, hs1.trans (hst.trans hs'), hf⟩
/-- All is done. -/
theorem JD_done (hk : J P f ro n R k ds env w) : JD P f ro n R ops T X [] [] D env0 k ds env w := by
  intro hT hN hp nd l tmps cs hI
  obtain ⟨l', tmps1, hl', hI1, hs1⟩ := Inv.flush (f := f) (ro := ro) (ds := ds) (k := k) hT hN nd hI cs
  obtain rfl : l' = [] := by
    rcases hl' with h | ⟨i, r, _, hi⟩
    · exact h
    · simp at hi
  simp only [planOk, Bool.and_eq_true, List.all_eq_true, List.mem_range, Bool.or_eq_true, List.contains_eq_mem, decide_eq_true_eq, List.not_mem_nil, or_false] at hp
  obtain ⟨v', w', fr, w'', hR, hs', hf⟩ := hk tmps1 cs hI1.size (fun t v hv => hI1.tm t v (by
    rcases nd.env t v hv with ⟨i, hi, hd⟩ | ⟨h1, h2⟩
    · exact .inl ⟨i, hi, by simp, hd⟩
    · refine .inr ⟨fun i hi => ?_, h2⟩
      have hil : i < ops.size := by
        unfold dstAt at hi
        cases hx : ops[i]? with
        | none => simp [hx] at hi
        | some x => exact (Array.getElem?_eq_some_iff.1 hx).1
      exact absurd hi (h1 i (hp.1 i hil))))
  exact ⟨v', w', fr, w'', hR, hs1.trans (.head stepR_region_end hs'), hf⟩
theorem tail_same {l : List Nat} : ∀ {τ D : List Nat}, planOk.tailOk ops.size T τ D = true → l.Nodup → l.Pairwise (fun a b => has T a b = false) → (∀ i, i ∈ l ↔ i ∈ τ) → l = τ := by
  induction l with
  | nil =>
    intro τ D _ _ _ hm
    cases τ with
    | nil => rfl
    | cons h r => exact absurd ((hm h).2 List.mem_cons_self) (by simp)
  | cons x r ih =>
    intro τ D ht hn hp hm
    cases τ with
    | nil => exact absurd ((hm x).1 List.mem_cons_self) (by simp)
    | cons h τ =>
      simp only [planOk.tailOk, Bool.and_eq_true, List.all_eq_true, Bool.not_eq_true', List.contains_eq_mem, decide_eq_false_iff_not] at ht
      have waits : ∀ (τ' D' : List Nat), planOk.tailOk ops.size T τ' D' = true → ∀ y ∈ τ', y ∉ D' ∧ ∀ d ∈ D', has T y d = true := by
        intro τ'
        induction τ' with
        | nil => intro D' _ y hy; cases hy
        | cons a b ihb =>
          intro D' h' y hy
          simp only [planOk.tailOk, Bool.and_eq_true, List.all_eq_true, Bool.not_eq_true', List.contains_eq_mem, decide_eq_false_iff_not] at h'
          rcases List.mem_cons.1 hy with rfl | hy
          · exact ⟨h'.1.1.2, h'.1.2⟩
          · have := ihb _ h'.2 y hy
            exact ⟨fun hd => this.1 (List.mem_cons_of_mem _ hd), fun d hd => this.2 d (List.mem_cons_of_mem _ hd)⟩
      have hx : x = h := by
        rcases List.mem_cons.1 ((hm x).1 List.mem_cons_self) with e | hx
        · exact e
        · have h1 := (waits _ _ ht.2 x hx).2 h List.mem_cons_self
          rcases List.mem_cons.1 ((hm h).2 List.mem_cons_self) with e | h2
          · exact e.symm
          · have := (List.pairwise_cons.1 hp).1 h h2; rw [h1] at this; cases this
      subst hx
      have hr : r = τ := by
        refine ih ht.2 (List.nodup_cons.1 hn).2 (List.pairwise_cons.1 hp).2 (fun i => ⟨fun hi => ?_, fun hi => ?_⟩)
        · rcases List.mem_cons.1 ((hm i).1 (List.mem_cons_of_mem _ hi)) with rfl | h
          · exact absurd hi (List.nodup_cons.1 hn).1
          · exact h
        · rcases List.mem_cons.1 ((hm i).2 (List.mem_cons_of_mem _ hi)) with rfl | h
          · exact absurd List.mem_cons_self (waits _ _ ht.2 i hi).1
          · exact h
      rw [hr]
/-- The tail, in its fixed order. -/
theorem JD_tail {h : Nat} {os : List Oper} (hos : (h :: τ).map (fun i => ops[i]?) = os.map some) (hk : JL P f ro n R ops os k ds env w) : JD P f ro n R ops T X [] (h :: τ) D env0 k ds env w := by
  intro hT hN hp nd l tmps cs hI
  obtain ⟨l', tmps1, hl', hI1, hs1⟩ := Inv.flush (f := f) (ro := ro) (ds := ds) (k := k) hT hN nd hI cs
  have hin : h ∈ l' := hI1.rest h (by simp)
  simp only [planOk, Bool.and_eq_true, List.all_eq_true, List.mem_range, Bool.or_eq_true, List.contains_eq_mem, decide_eq_true_eq] at hp
  have hp2 := hp.2
  simp only [planOk.tailOk, Bool.and_eq_true, List.all_eq_true, Bool.not_eq_true', List.contains_eq_mem, decide_eq_false_iff_not] at hp2
  have waits : ∀ (τ' D' : List Nat), planOk.tailOk ops.size T τ' D' = true → ∀ y ∈ τ', y ∉ D' ∧ ∀ d ∈ D', has T y d = true := by
    intro τ'
    induction τ' with
    | nil => intro D' _ y hy; cases hy
    | cons a b ihb =>
      intro D' h' y hy
      simp only [planOk.tailOk, Bool.and_eq_true, List.all_eq_true, Bool.not_eq_true', List.contains_eq_mem, decide_eq_false_iff_not] at h'
      rcases List.mem_cons.1 hy with rfl | hy
      · exact ⟨h'.1.1.2, h'.1.2⟩
      · have := ihb _ h'.2 y hy
        exact ⟨fun hd => this.1 (List.mem_cons_of_mem _ hd), fun d hd => this.2 d (List.mem_cons_of_mem _ hd)⟩
  -- the head is in the tail: so nothing that is told is still to come
  have hnone : ∀ d ∈ D.map (·.1), d ∉ l' := by
    rcases hl' with rfl | ⟨j, r, rfl, hj⟩
    · cases hin
    · intro d hd hdl
      have hjw := waits _ _ hp.2 j (by simpa using hj)
      rcases List.mem_cons.1 hdl with rfl | hdl
      · exact hjw.1 hd
      · have := (List.pairwise_cons.1 hI1.lin).1 d hdl
        rw [hjw.2 d hd] at this; cases this
  have heq : l' = h :: τ := by
    refine tail_same hp.2 hI1.nodup hI1.lin (fun i => ⟨fun hi => ?_, fun hi => hI1.rest i (by simpa using hi)⟩)
    rcases (hI1.part i hi).2 with h1 | h1
    · simpa using h1
    · exact absurd hi (hnone i h1)
  subst heq
  obtain ⟨v', w', fr, w'', hR, hs', hf⟩ := hk (h :: τ) hos tmps1 cs hI1.size (fun t v hv => by
    rcases nd.env t v hv with ⟨i, hi, hd⟩ | ⟨h1, h2⟩
    · exact hI1.tm t v (.inl ⟨i, hi, hnone i (List.mem_map.2 ⟨_, hi, rfl⟩), hd⟩)
    · refine hI1.tm t v (.inr ⟨fun i hi => ?_, h2⟩)
      have hil : i < ops.size := by
        unfold dstAt at hi
        cases hx : ops[i]? with
        | none => simp [hx] at hi
        | some x => exact (Array.getElem?_eq_some_iff.1 hx).1
      rcases hp.1 i hil with h3 | h3
      · exact absurd hi (h1 i h3)
      · exact h3)
  exact ⟨v', w', fr, w'', hR, hs1.trans hs', hf⟩
/-- A region that draws its order. T, σ, τ: any that the look takes. -/
theorem J_draw {id : Nat} (X : Nat → Prop) (T : List Nat) (σ : List (Nat × Bool)) (τ : List Nat) (hm : P.follows .mixedOrders = true) (hreg : regOk ops T σ τ = true) (hdst : ops.toList.all (dstOk n) = true)
    (hk : ∀ w1, Ext w w1 → w1.heap = w.heap → JD P f ro n R ops T X σ τ [] env k ds env w1) : J P f ro n R (.code (.region id ops true) :: k) ds env w := by
  intro tmps cs hn hmt
  simp only [regOk, Bool.and_eq_true] at hreg
  obtain ⟨⟨hT, hN⟩, hp⟩ := hreg
  have hs := stepR_region_draw (P := P) (b := base f ro) (a := ⟨tmps, ds⟩) (k := k) (cs := cs) (w := w) (ops := ops) (id := id)
  simp only [Region.schedule, hm, Bool.true_or, if_true] at hs
  have hS := sched_all hT (w.tape w.drawn (.order (base f ro).fn id))
  have hcover : ∀ (σ' : List (Nat × Bool)) (D' : List Nat), planOk ops.size T σ' τ D' = true → (∀ i, i < ops.size → i ∈ σ'.map (·.1) ++ τ ∨ i ∈ D') ∧ ∀ i ∈ σ'.map (·.1) ++ τ, i < ops.size := by
    intro σ'
    induction σ' with
    | nil =>
      intro D' h
      simp only [planOk, Bool.and_eq_true, List.all_eq_true, List.mem_range, Bool.or_eq_true, List.contains_eq_mem, decide_eq_true_eq] at h
      refine ⟨fun i hi => (h.1 i hi).symm.imp (by simp) (fun h => h), ?_⟩
      have hlt : ∀ (τ' D'' : List Nat), planOk.tailOk ops.size T τ' D'' = true → ∀ y ∈ τ', y < ops.size := by
        intro τ'
        induction τ' with
        | nil => intro D'' _ y hy; cases hy
        | cons a b ihb =>
          intro D'' h' y hy
          simp only [planOk.tailOk, Bool.and_eq_true] at h'
          rcases List.mem_cons.1 hy with rfl | hy
          · simpa using h'.1.1.1
          · exact ihb _ h'.2 y hy
      intro i hi
      exact hlt _ _ h.2 i (by simpa using hi)
    | cons x r ih =>
      intro D' h
      obtain ⟨i0, c⟩ := x
      obtain ⟨h1, _, _, _, h5⟩ := plan_head h
      obtain ⟨ih1, ih2⟩ := ih _ h5
      refine ⟨fun i hi => ?_, fun i hi => ?_⟩
      · rcases ih1 i hi with h | h
        · exact .inl (by simp only [List.map_cons, List.cons_append, List.mem_cons]; exact .inr h)
        · rcases List.mem_cons.1 h with rfl | h
          · exact .inl (by simp)
          · exact .inr h
      · simp only [List.map_cons, List.cons_append, List.mem_cons] at hi
        rcases hi with rfl | hi
        · exact h1
        · exact ih2 i hi
  obtain ⟨hc1, hc2⟩ := hcover σ [] hp
  have nd : Node ops T n [] env env := ⟨by simp, fun i hi => by simp at hi, fun i hi => by simp at hi, fun t v hv => .inr ⟨fun i hi => by simp at hi, hv⟩, fun i o ho => List.all_eq_true.1 hdst o (by simpa using Array.mem_of_getElem? ho)⟩
  have hI : Inv P ops T X n (Region.linearise .any ops (w.tape w.drawn (.order (base f ro).fn id))) (σ.map (·.1) ++ τ) [] env tmps { w with drawn := w.drawn + 1 } := by
    refine ⟨hS.lin, hS.nodup, fun i hi => ⟨((hS.mem i).1 hi).1, .inl ((hc1 i ((hS.mem i).1 hi).1).resolve_right (by simp))⟩, fun i hi => (hS.mem i).2 ⟨hc2 i hi, fun h => h⟩,
      fun j hj hjl => absurd ((hS.mem j).2 ⟨hj, fun h => h⟩) hjl, hn, fun t v htv => ?_, fun i u hi => by simp at hi⟩
    rcases htv with ⟨i, hi, _⟩ | ⟨_, h2⟩
    · simp at hi
    · exact hmt t v h2
  obtain ⟨v', w', fr, w'', hR, hs', hf⟩ := hk { w with drawn := w.drawn + 1 } (Ext.drew w) rfl hT hN hp nd _ tmps cs hI
  exact ⟨v', w', fr, w'', hR, .head hs hs', hf⟩
end
end Go.Eng
