/- The engine, part 10: callees that turn what the caller holds; a range over a function. -/
import Derived.Test.YtcoldgkhlkjjmaaGreatE9
import Derived.RangeFuncIn
namespace Go.Eng
open Go.RowKit

/-! ### Handing chunks over -/
def Star (A : List HP) : HP := ⟨fun k => ∃ c ∈ A, c.foot k, fun w => (∀ c ∈ A, c.holds w) ∧ A.Pairwise (fun c d : HP => ∀ k : Nat, c.foot k → ¬ d.foot k),
  fun w w' h hw => ⟨fun c hc => c.loc w w' (fun k hk => h k ⟨c, hc, hk⟩) (hw.1 c hc), hw.2⟩⟩
def Held (w : World) (A : List HP) : Prop := (Star A).holds w ∧ ∀ k, (Star A).foot k → k < w.heap.size
/-- A's chunks have become A's' chunks, and nothing else that was there has turned. -/
structure Turn (w : World) (A : List HP) (w' : World) (A' : List HP) : Prop where
  frm : Frm (Star A).foot w w'
  holds : (Star A').holds w'
  foot : ∀ k, (Star A').foot k → k < w'.heap.size ∧ ((Star A).foot k ∨ w.heap.size ≤ k)
section
variable {w0 w w' : World} {F : Nat → Prop} {A A' L M : List HP}
theorem St.held (h : St w0 F w (A ++ L)) : Held w A :=
  ⟨⟨fun c hc => h.all c (List.mem_append_left _ hc), (List.pairwise_append.1 h.sep).1⟩, fun k ⟨c, hc, hk⟩ => (h.foot c (List.mem_append_left _ hc) k hk).1⟩
theorem Held.st (h : Held w A) : St w (Star A).foot w A := St.initF w _ (fun c hc => ⟨h.1.1 c hc, fun k hk => ⟨h.2 k ⟨c, hc, hk⟩, c, hc, hk⟩⟩) h.1.2
theorem St.turned (h : St w (Star A).foot w' (A' ++ M)) : Turn w A w' A' :=
  ⟨h.frm, ⟨fun c hc => h.all c (List.mem_append_left _ hc), (List.pairwise_append.1 h.sep).1⟩, fun k ⟨c, hc, hk⟩ => h.foot c (List.mem_append_left _ hc) k hk⟩
theorem Frm.trans {w1 w2 w3 : World} {F G : Nat → Prop} (h : Frm F w1 w2) (g : Frm G w2 w3) (hg : ∀ k, k < w1.heap.size → G k → F k) : Frm F w1 w3 :=
  ⟨g.os.trans h.os, g.tape.trans h.tape, g.output.trans h.output, Nat.le_trans h.size g.size, fun k hk hf => (g.old k (Nat.lt_of_lt_of_le hk h.size) (fun hg' => hf (hg k hk hg'))).trans (h.old k hk hf), Nat.le_trans h.drawn g.drawn⟩
theorem St.take (h : St w0 F w (A ++ L)) (t : Turn w A w' A') : St w0 F w' (A' ++ L) := by
  have hA : ∀ k, (Star A).foot k → k < w.heap.size ∧ (F k ∨ w0.heap.size ≤ k) := fun k ⟨c, hc, hk⟩ => h.foot c (List.mem_append_left _ hc) k hk
  have hdis : ∀ d ∈ L, ∀ k, d.foot k → ¬ (Star A).foot k := fun d hd k hk ⟨c, hc, hck⟩ => (List.pairwise_append.1 h.sep).2.2 c hc d hd k hck hk
  have hle := h.frm.size
  have hle' := t.frm.size
  refine ⟨h.frm.trans t.frm (fun k hk hk' => ?_), fun c hc => ?_, fun c hc k hk => ?_, List.pairwise_append.2 ⟨t.holds.2, (List.pairwise_append.1 h.sep).2.1, fun a ha b hb k hka hkb => ?_⟩⟩
  · rcases (hA k hk').2 with h1 | h1
    · exact h1
    · omega
  · rcases List.mem_append.1 hc with hc | hc
    · exact t.holds.1 c hc
    · exact c.loc w w' (fun k hk => t.frm.old k (h.foot c (List.mem_append_right _ hc) k hk).1 (hdis c hc k hk)) (h.all c (List.mem_append_right _ hc))
  · rcases List.mem_append.1 hc with hc | hc
    · have := t.foot k ⟨c, hc, hk⟩
      refine ⟨this.1, ?_⟩
      rcases this.2 with h1 | h1
      · exact (hA k h1).2
      · exact .inr (by omega)
    · have := h.foot c (List.mem_append_right _ hc) k hk
      exact ⟨by omega, this.2⟩
  · rcases (t.foot k ⟨a, ha, hka⟩).2 with h1 | h1
    · exact hdis b hb k hkb h1
    · have := (h.foot b (List.mem_append_right _ hb) k hkb).1; omega
theorem Turn.ext {w'' : World} (t : Turn w A w' A') (e : Ext w' w'') : Turn w A w'' A' :=
  ⟨t.frm.trans (e.frm NoF) (fun _ _ h => h.elim), (Star A').loc w' w'' (fun k hk => e.block k (t.foot k hk).1) t.holds, fun k hk => ⟨Nat.lt_of_lt_of_le (t.foot k hk).1 e.size, (t.foot k hk).2⟩⟩
theorem Turn.refl (h : Held w A) : Turn w A w A := ⟨⟨rfl, rfl, rfl, Nat.le_refl _, fun _ _ _ => rfl, Nat.le_refl _⟩, h.1, fun k hk => ⟨h.2 k hk, .inl hk⟩⟩
theorem Turn.trans {w'' : World} {A'' : List HP} (t : Turn w A w' A') (u : Turn w' A' w'' A'') : Turn w A w'' A'' := by
  have h1 := t.frm.size
  refine ⟨t.frm.trans u.frm (fun k hk hk' => ?_), u.holds, fun k hk => ⟨(u.foot k hk).1, ?_⟩⟩
  · rcases (t.foot k hk').2 with h | h
    · exact h
    · omega
  · rcases (u.foot k hk).2 with h | h
    · exact (t.foot k h).2
    · exact .inr (by omega)
theorem Turn.held (t : Turn w A w' A') : Held w' A' := ⟨t.holds, fun k hk => (t.foot k hk).1⟩
/-- No chunk handed over: it is an Ext. -/
theorem Turn.toExt (t : Turn w [] w' A') : Ext w w' := Frm.ext ⟨t.frm.os, t.frm.tape, t.frm.output, t.frm.size, fun k hk _ => t.frm.old k hk (fun ⟨c, hc, _⟩ => by simp at hc), t.frm.drawn⟩
theorem Turn.fresh (t : Turn w [] w' A') : Fresh w w' A' :=
  ⟨t.toExt, t.holds.1, fun c hc k hk => by
    have := t.foot k ⟨c, hc, hk⟩
    exact ⟨this.2.resolve_left (fun ⟨c, hc, _⟩ => by simp at hc), this.1⟩, t.holds.2⟩
end

/-! ### A range over a function -/
/-- The loop's record. -/
def rec_ (st : LoopState) (pe : Option Code) (f : FuncId) (tm : Array Value) (ps : Array Tmp) (as body : Code) (D : Nat) : Obj := .loop ⟨st, pe, f, tm, ps, as, body, D⟩
/-- A function value y that takes what an iterator hands it: the caller's chunks C i, before element i; behind it C (i + 1), or Cs where it says no more. X i: what the values of element i bring along. wS, c0: where the iterator was called. -/
def YieldOk (P : Program) (y : Value) (N : Nat) (X : Nat → List Value → List HP → Prop) (C : Nat → List HP → Prop) (Cs : List HP → Prop) (wS : World) (c0 : List HP) : Prop :=
  ∀ i w vals cx c, i < N → C i c → X i vals cx → Held w (c ++ cx) → Frm (Star c0).foot wS w →
    RetV P y vals.toArray w (fun v w' => ∃ c', ((v = .bool true ∧ C (i + 1) c') ∨ (v = .bool false ∧ Cs c')) ∧ Turn w (c ++ cx) w' c')
/-- A function value with a text of its own. -/
def IsFun (P : Program) (fv : Value) : Prop := ∃ g cap, fv = .func (.func g) #[] cap ∧ Enters P g
/-- An iterator value: it hands N elements on, one behind the other, till one says no more. Kp: the blocks that it reads, in world wr. -/
def IterV (P : Program) (fv : Value) (N : Nat) (X : Nat → List Value → List HP → Prop) (wr : World) (Kp : Nat → Prop) : Prop :=
  ∀ y C Cs w c, YieldOk P y N X C Cs w c → (∀ k, Kp k → w.heap[k]? = wr.heap[k]? ∧ ¬ (Star c).foot k) → C 0 c → Held w c →
    RetV P fv #[y] w (fun _ w' => ∃ c', (C N c' ∨ Cs c') ∧ Turn w c w' c')

section
variable {P : Program} {f : FuncId} {ro : Option Nat} {n : Nat} {R : Value → World → Prop} {k : List Item} {ds : List Deferred} {env : Env} {w0 w : World} {F : Nat → Prop} {A L : List HP}
/-- Rounds: beginning and ending one. -/
theorem J_beginRound {l D : Nat} {tm : Array Value} {ps : Array Tmp} {as body : Code} {L' : List HP} (hs : St w0 F w L) {g : FuncId} [u : BlkUp L l (rec_ .ready none g tm ps as body D) (rec_ .busy none g tm ps as body D) L']
    (h : ∀ w', St w0 F w' L' → J P f (some l) n R k ds env w') : J P f (some l) n R (.beginRound :: k) ds env w := by
  have hl : w.heap[l]? = some (rec_ .ready none g tm ps as body D) := hs.all _ u.up.mem
  have hr : (Instr.beginRound l).run P w = .ok () { w with heap := w.heap.setIfInBounds l (rec_ .busy none g tm ps as body D) } := by
    simp only [Instr.beginRound, Instr.getLoop, getObj, setObj, Sem.run_bind, Sem.run, hl, rec_, Result.andThen_ok, Sem.run_pure]
  exact J.step (fun tmps cs hn hm => ⟨tmps, hn, hm, .one (stepR_beginRound rfl hr)⟩) (h _ (hs.set (u := u)))
theorem run_endRound' {l D : Nat} {tm : Array Value} {ps : Array Tmp} {as body : Code} {g : FuncId} (hl : w.heap[l]? = some (rec_ .busy none g tm ps as body D)) (j : Option Code) :
    (Instr.endRound l j).run P w = .ok (.bool j.isNone) { w with heap := w.heap.setIfInBounds l (rec_ (if j.isNone then .ready else .done) j g tm ps as body D) } := by
  simp only [Instr.endRound, Instr.getLoop, getObj, setObj, Sem.run_bind, Sem.run, hl, rec_, Result.andThen_ok, Sem.run_pure]
theorem J_roundEnd {l D : Nat} {tm : Array Value} {ps : Array Tmp} {as body : Code} {L' : List HP} (hs : St w0 F w L) {g : FuncId} [u : BlkUp L l (rec_ .busy none g tm ps as body D) (rec_ .ready none g tm ps as body D) L']
    (h : ∀ w', St w0 F w' L' → R (.bool true) w') : J P f (some l) n R [] ds env w := by
  have hl : w.heap[l]? = some (rec_ .busy none g tm ps as body D) := hs.all _ u.up.mem
  have hr := run_endRound' (P := P) hl none
  intro tmps cs hn hm
  exact ⟨_, _, _, w, h _ (hs.set (u := u)), Steps.refl _ _, fun c r hcs => by subst hcs; exact .one (stepR_round_end rfl rfl hr)⟩
theorem J_roundRet {l D : Nat} {tm : Array Value} {ps : Array Tmp} {as body : Code} {L' : List HP} (hs : St w0 F w L) {g : FuncId} [u : BlkUp L l (rec_ .busy none g tm ps as body D) (rec_ .done (some .ret) g tm ps as body D) L']
    (h : ∀ w', St w0 F w' L' → R (.bool false) w') : J P f (some l) n R (.code .ret :: k) ds env w := by
  have hl : w.heap[l]? = some (rec_ .busy none g tm ps as body D) := hs.all _ u.up.mem
  have hr := run_endRound' (P := P) hl (some .ret)
  intro tmps cs hn hm
  exact ⟨_, _, _, w, h _ (hs.set (u := u)), Steps.refl _ _, fun c r hcs => by subst hcs; exact .one (stepR_round_ret rfl rfl hr)⟩
theorem J_roundExit {l D id : Nat} {tm : Array Value} {ps : Array Tmp} {as body : Code} {L' : List HP} (hs : St w0 F w L) {g : FuncId} (hx : exitTo id k = none) [u : BlkUp L l (rec_ .busy none g tm ps as body D) (rec_ .done (some (.exit id)) g tm ps as body D) L']
    (h : ∀ w', St w0 F w' L' → R (.bool false) w') : J P f (some l) n R (.code (.exit id) :: k) ds env w := by
  have hl : w.heap[l]? = some (rec_ .busy none g tm ps as body D) := hs.all _ u.up.mem
  have hr := run_endRound' (P := P) hl (some (.exit id))
  intro tmps cs hn hm
  exact ⟨_, _, _, w, h _ (hs.set (u := u)), Steps.refl _ _, fun c r hcs => by subst hcs; exact .one (stepR_round_exit rfl rfl hx hr)⟩

/-- What a round's body owes at its end. -/
def RoundPost (C : Nat → List HP → Prop) (Cs : Code → List HP → Prop) (l D : Nat) (tm : Array Value) (g : FuncId) (ps : Array Tmp) (as body : Code) (i : Nat) (w : World) (A0 : List HP) (v : Value) (w' : World) : Prop :=
  (v = .bool true ∧ ∃ A', C (i + 1) A' ∧ Turn w A0 w' (Blk l (rec_ .ready none g tm ps as body D) :: A')) ∨
  (v = .bool false ∧ ∃ j A', Cs j A' ∧ Turn w A0 w' (Blk l (rec_ .done (some j) g tm ps as body D) :: A'))
def parEnv : List Tmp → List Value → Env → Env
  | t :: ts, v :: vs, e => parEnv ts vs ((t, v) :: e)
  | _, _, e => e
theorem parEnv_match {n : Nat} : ∀ (ps : List Tmp) (vs : List Value) (tm : Array Value) (e : Env), tm.size = n → (∀ t ∈ ps, t < n) → Match tm e → ps.length = vs.length →
    ((ps.zip vs).foldl (fun (tm : Array Value) (x : Tmp × Value) => tm.setIfInBounds x.1 x.2) tm).size = n ∧ Match ((ps.zip vs).foldl (fun (tm : Array Value) (x : Tmp × Value) => tm.setIfInBounds x.1 x.2) tm) (parEnv ps vs e) := by
  intro ps
  induction ps with
  | nil => intro vs tm e hn _ hm _; cases vs <;> exact ⟨hn, hm⟩
  | cons t ts ih =>
    intro vs tm e hn ht hm hl
    cases vs with
    | nil => simp at hl
    | cons v vs =>
      simp only [List.zip_cons_cons, List.foldl_cons, parEnv]
      refine ih vs _ _ (by simpa using hn) (fun t' ht' => ht t' (List.mem_cons_of_mem _ ht')) ?_ (by simpa using hl)
      have := hm.put (d := some t) (fun t' e => by cases e; rw [hn]; exact ht t List.mem_cons_self) v
      simpa [Act.put, put] using this
/-- The statement 'for .. := range g', in a function's own frame. -/
theorem J_range {fop : Operand} {ps : List Tmp} {as body : Code} {fv : Value} {N : Nat} {X : Nat → List Value → List HP → Prop} {wr : World} {Kp : Nat → Prop} (hs : St w0 F w (A ++ L)) (hf : ev env fop = some fv) (hfv : IsFun P fv) (it : IterV P fv N X wr Kp)
    (C : Nat → List HP → Prop) (Cs : Code → List HP → Prop) (h0 : C 0 A) (hKp : ∀ k, Kp k → w.heap[k]? = wr.heap[k]? ∧ ¬ (Star A).foot k ∧ k < w.heap.size) (hps : ∀ t ∈ ps, t < n) (hX : ∀ i vals cx, X i vals cx → vals.length = ps.length)
    (hbody : ∀ l D tm i w1 A1 cx vals, w.heap.size ≤ D → D < l → i < N → C i A1 → X i vals cx → Held w1 (Blk l (rec_ .ready none f tm ps.toArray as body D) :: (A1 ++ cx)) → (∀ k, k < w.heap.size → ¬ (Star A).foot k → w1.heap[k]? = w.heap[k]?) →
      J P f (some l) n (RoundPost C Cs l D tm f ps.toArray as body i w1 (Blk l (rec_ .ready none f tm ps.toArray as body D) :: (A1 ++ cx))) [.code as, .beginRound, .code body] [] (parEnv ps vals env) w1)
    (hdone : ∀ w2 D A2, C N A2 → St w0 F w2 (Blk D (.deferred (some [])) :: (A2 ++ L)) → J P f none n R k (⟨.collected D, #[]⟩ :: ds) env w2)
    (hstop : ∀ w2 D A2 j, Cs j A2 → St w0 F w2 (Blk D (.deferred (some [])) :: (A2 ++ L)) → J P f none n R (.code j :: k) (⟨.collected D, #[]⟩ :: ds) env w2) :
    J P f none n R (.code (.rangeFunc fop ps.toArray as body) :: k) ds env w := by
  intro tmps cs hn hm
  -- entering
  obtain ⟨D, hD⟩ : ∃ D, w.heap.size = D := ⟨_, rfl⟩
  let w1 : World := w.alloc (.deferred (some []))
  let w2 : World := w1.alloc (rec_ .ready none f tmps ps.toArray as body D)
  have hf1 := Fresh.alloc w (.deferred (some []))
  have hf2 := Fresh.alloc w1 (rec_ .ready none f tmps ps.toArray as body D)
  have hs1 : w1.heap.size = D + 1 := by simp [w1, hD]
  rw [hD] at hf1
  rw [hs1] at hf2
  have hst : St w0 F w2 (Blk (D + 1) (rec_ .ready none f tmps ps.toArray as body D) :: (A ++ (Blk D (.deferred (some [])) :: L))) := by
    have := ((hs.fresh hf1).fresh hf2)
    exact this.perm (List.Perm.cons _ (by simpa using (List.perm_middle (l₁ := A) (a := Blk D (.deferred (some []))) (l₂ := L)).symm))
  have he : (Instr.enterLoop (base f none).fn tmps ps.toArray as body (base f none).roundOf).run P w = .ok (D + 1, [⟨.collected D, #[]⟩]) w2 := by
    simp only [Instr.enterLoop, base, newObj, Sem.run_bind, Sem.run, Result.andThen_ok, Sem.run_pure, hD]
    congr 1
    congr 1
  have hsz2 : w2.heap.size = D + 2 := by simp [w2, hs1]
  have hw2 : ∀ k, k < w.heap.size → w2.heap[k]? = w.heap[k]? := fun k hk => by
    rw [hf2.ext.block k (by rw [hs1]; omega), hf1.ext.block k hk]
  -- the function is called
  obtain ⟨c0, hc0⟩ : ∃ c0 : List HP, c0 = Blk (D + 1) (rec_ .ready none f tmps ps.toArray as body D) :: A := ⟨_, rfl⟩
  have hheld : Held w2 c0 := by rw [hc0]; exact St.held (L := Blk D (.deferred (some [])) :: L) hst
  have hstar : ∀ k, k < w.heap.size → (Star c0).foot k → (Star A).foot k := fun k hk ⟨c, hc, hck⟩ => by
    rw [hc0] at hc
    rcases List.mem_cons.1 hc with rfl | hc
    · simp only [Blk] at hck; omega
    · exact ⟨c, hc, hck⟩
  have hy : YieldOk P (.func (.yield (D + 1)) #[] #[]) N X (fun i c => ∃ A1, c = Blk (D + 1) (rec_ .ready none f tmps ps.toArray as body D) :: A1 ∧ C i A1)
      (fun c => ∃ j A1, c = Blk (D + 1) (rec_ .done (some j) f tmps ps.toArray as body D) :: A1 ∧ Cs j A1) w2 c0 := by
    rintro i w3 vals cx c hi ⟨A1, rfl, hC⟩ hXi hh hF
    have hl : w3.heap[D + 1]? = some (rec_ .ready none f tmps ps.toArray as body D) := hh.1.1 _ (List.mem_append_left _ List.mem_cons_self)
    have hlen := hX i vals cx hXi
    refine ⟨⟨.fn (.yield (D + 1)) #[], vals.toArray⟩, .round (D + 1) f ((ps.zip vals).foldl (fun (tm : Array Value) (x : Tmp × Value) => tm.setIfInBounds x.1 x.2) tmps) as body, w3, ?_, ?_, ?_⟩
    · simp [Deferred.ofValue]
    · simp only [invoke, Instr.yield, Instr.getLoop, getObj, Sem.run_bind, Sem.run, hl, rec_, Result.andThen_ok, Sem.run_pure, List.size_toArray, hlen, ne_eq, not_true_eq_false, if_false]
      congr 2
      simp
    · intro cf cs'
      obtain ⟨hsz, hmt⟩ := parEnv_match ps vals tmps env hn hps hm hlen.symm
      have hJ := hbody (D + 1) D tmps i w3 A1 cx vals (by omega) (by omega) hi hC hXi hh (fun k hk hnA => by
        rw [hF.old k (by rw [hsz2]; omega) (fun hc => hnA (hstar k hk hc)), hw2 k hk])
      obtain ⟨v, w', fr, w'', hR, hst', hfin⟩ := hJ _ (cf :: cs') hsz hmt
      refine ⟨v, w', ?_, hst'.trans (hfin cf cs' rfl)⟩
      rcases hR with ⟨rfl, A', hA', ht⟩ | ⟨rfl, j, A', hA', ht⟩
      · exact ⟨_, .inl ⟨rfl, A', rfl, hA'⟩, ht⟩
      · exact ⟨_, .inr ⟨rfl, j, A', rfl, hA'⟩, ht⟩
  obtain ⟨d, nx, w3, hres, hinv, hnx⟩ := it (.func (.yield (D + 1)) #[] #[]) _ _ w2 c0 hy (fun k hk => by
    obtain ⟨h1, h2, h3⟩ := hKp k hk
    exact ⟨by rw [hw2 k h3]; exact h1, fun hc => h2 (hstar k h3 hc)⟩) ⟨A, hc0, h0⟩ hheld
  have hresolve : (resolve (Act.eval ⟨tmps, ds⟩) (rangeCall fop (D + 1)) 0).run P w2 = .ok d w2 := by
    have e : Act.eval ⟨tmps, ds⟩ fop = fv := hm.eval hf
    simp only [resolve, e]
    have e2 : (#[Operand.const (.func (.yield (D + 1)) #[] #[])] : Array Operand).map (Act.eval ⟨tmps, ds⟩) = #[.func (.yield (D + 1)) #[] #[]] := by simp [Act.eval]
    rw [e2]; exact hres
  -- what lies behind it
  have after : ∀ v w4 c', ((∃ A1, c' = Blk (D + 1) (rec_ .ready none f tmps ps.toArray as body D) :: A1 ∧ C N A1) ∨ ∃ j A1, c' = Blk (D + 1) (rec_ .done (some j) f tmps ps.toArray as body D) :: A1 ∧ Cs j A1) → Turn w2 c0 w4 c' →
      ∃ v' w' fr w'', R v' w' ∧ Steps P (lone (((base f none).atR ⟨tmps, ⟨.collected D, #[]⟩ :: ds⟩ (.inRangeFunc (D + 1) :: k)).finish v) cs w4) (lone fr cs w'') ∧ Fin P f none fr cs w'' v' w' := by
    intro v w4 c' hc' ht
    rw [finish_atR_inRangeFunc]
    have hst4 : St w0 F w4 (c' ++ (Blk D (.deferred (some [])) :: L)) := by
      refine St.take (A := c0) ?_ ht
      rw [hc0]; exact hst
    rcases hc' with ⟨A1, rfl, hC⟩ | ⟨j, A1, rfl, hC⟩
    · have hl : w4.heap[D + 1]? = some (rec_ .ready none f tmps ps.toArray as body D) := hst4.all (Blk (D + 1) (rec_ .ready none f tmps ps.toArray as body D)) (by simp)
      have hend : (Instr.endLoop (D + 1)).run P w4 = .ok none { w4 with heap := w4.heap.setIfInBounds (D + 1) (rec_ .exhausted none f tmps ps.toArray as body D) } := by
        have hb : (LoopState.ready == LoopState.busy) = false := rfl
        simp [Instr.endLoop, Instr.getLoop, getObj, setObj, Sem.run, hl, rec_]
      have hst5 := hst4.set (b := D + 1) (o := rec_ .ready none f tmps ps.toArray as body D) (o' := rec_ .exhausted none f tmps ps.toArray as body D) (L' := Blk (D + 1) (rec_ .exhausted none f tmps ps.toArray as body D) :: (A1 ++ (Blk D (.deferred (some [])) :: L))) (u := ⟨Up.head _ _ _⟩)
      have hst6 : St w0 F _ (Blk D (.deferred (some [])) :: (A1 ++ L)) := (hst5.sub (M := A1 ++ (Blk D (.deferred (some [])) :: L)) (List.sublist_cons_self _ _)).perm List.perm_middle
      obtain ⟨v', w', fr, w'', hR, hs', hfin⟩ := hdone _ D A1 hC hst6 tmps cs hn hm
      exact ⟨v', w', fr, w'', hR, .head (stepR_endRangeFunc hend) hs', hfin⟩
    · have hl : w4.heap[D + 1]? = some (rec_ .done (some j) f tmps ps.toArray as body D) := hst4.all (Blk (D + 1) (rec_ .done (some j) f tmps ps.toArray as body D)) (by simp)
      have hend : (Instr.endLoop (D + 1)).run P w4 = .ok (some j) { w4 with heap := w4.heap.setIfInBounds (D + 1) (rec_ .exhausted (some j) f tmps ps.toArray as body D) } := by
        simp [Instr.endLoop, Instr.getLoop, getObj, setObj, Sem.run, hl, rec_]
      have hst5 := hst4.set (b := D + 1) (o := rec_ .done (some j) f tmps ps.toArray as body D) (o' := rec_ .exhausted (some j) f tmps ps.toArray as body D) (L' := Blk (D + 1) (rec_ .exhausted (some j) f tmps ps.toArray as body D) :: (A1 ++ (Blk D (.deferred (some [])) :: L))) (u := ⟨Up.head _ _ _⟩)
      have hst6 : St w0 F _ (Blk D (.deferred (some [])) :: (A1 ++ L)) := (hst5.sub (M := A1 ++ (Blk D (.deferred (some [])) :: L)) (List.sublist_cons_self _ _)).perm List.perm_middle
      obtain ⟨v', w', fr, w'', hR, hs', hfin⟩ := hstop _ D A1 j hC hst6 tmps cs hn hm
      exact ⟨v', w', fr, w'', hR, .head (stepR_endRangeFunc hend) hs', hfin⟩
  obtain ⟨g0, cap, rfl, hen⟩ := hfv
  have hnx' : ∃ g as_, nx = .enter g as_ ∧ w3 = w2 := by
    simp only [Deferred.ofValue, Sem.run_pure, Result.ok.injEq] at hres
    obtain ⟨rfl, -⟩ := hres
    simp only [invoke] at hinv
    rw [hen] at hinv
    injection hinv with h1 h2
    exact ⟨_, _, h1.symm, h2.symm⟩
  cases nx with
  | enter g as_ =>
    obtain ⟨v, w4, fr1, ⟨c', hc', ht⟩, hst1, hfn, hlv⟩ := hnx ((base f none).atR ⟨tmps, ⟨.collected D, #[]⟩ :: ds⟩ (.inRangeFunc (D + 1) :: k) :: cs)
    obtain ⟨v', w', fr, w'', hR, hs', hfin⟩ := after v w4 c' hc' ht
    exact ⟨v', w', fr, w'', hR, .head (stepR_rangeFunc he hresolve hinv) (hst1.trans (.head (step_leave_returned hlv) hs')), hfin⟩
  | _ => obtain ⟨_, _, h, _⟩ := hnx'; cases h
/-- Leaving a function whose loops over functions have left marks. -/
def Lv (P : Program) (f : FuncId) (n : Nat) (R : Value → World → Prop) (ds : List Deferred) (env : Env) (w : World) : Prop :=
  ∀ (tmps : Array Value) (todo : List Item) (cs : List Frame), tmps.size = n → Match tmps env →
    ∃ v w' fr, R v w' ∧ Steps P (lone { (base f none).atR ⟨tmps, ds⟩ todo with mode := .returning } cs w) (lone fr cs w') ∧ fr.fn = f ∧ fr.leaving P w' (.returned v)
theorem Lv_nil {fn : Func} {l : List ResultVar} {vs : List Value} (hf : P.funcs[f]? = some fn) (hl : fn.results = l.toArray) (h : ResOk P env w l vs) (hR : R (mkRes vs) w) : Lv P f n R [] env w := fun _ _ _ _ hm =>
  ⟨_, w, _, hR, Steps.refl _ _, rfl, rfl, rfl, rfl, fn, hf, h.run hm hl⟩
theorem Lv_coll {D : Nat} (hs : St w0 F w (Blk D (.deferred (some [])) :: L)) (h : ∀ w', St w0 F w' L → Lv P f n R ds env w') : Lv P f n R (⟨.collected D, #[]⟩ :: ds) env w := by
  have hl : w.heap[D]? = some (.deferred (some [])) := hs.all _ List.mem_cons_self
  have hs2 := hs.set (b := D) (o := .deferred (some [])) (o' := .deferred none)
  have hrun : (Instr.takeDeferred D).run P w = .ok [] { w with heap := w.heap.setIfInBounds D (.deferred none) } := by
    simp [Instr.takeDeferred, getObj, setObj, Sem.run, hl]
  intro tmps todo cs hn hm
  obtain ⟨v, w', fr, hR, hst, hfn, hlv⟩ := h _ (hs2.sub (List.sublist_cons_self _ _)) tmps todo cs hn hm
  refine ⟨v, w', fr, hR, .head (step_lone_go ?_) hst, hfn, hlv⟩
  simp [stepG, unwind, Frame.atR, Sem.runT_eq, hrun, GStep.bare_after]
theorem J_retL (h : Lv P f n R ds env w) : J P f none n R (.code .ret :: k) ds env w := fun tmps cs hn hm => by
  obtain ⟨v, w', fr, hR, hst, hfn, hlv⟩ := h tmps (.code .ret :: k) cs hn hm
  exact ⟨v, w', fr, w', hR, .head (stepR_ret rfl) hst, hfn, rfl, hlv⟩
theorem J_endL (h : Lv P f n R ds env w) : J P f none n R [] ds env w := fun tmps cs hn hm => by
  obtain ⟨v, w', fr, hR, hst, hfn, hlv⟩ := h tmps [] cs hn hm
  exact ⟨v, w', fr, w', hR, .head (stepR_end rfl) hst, hfn, rfl, hlv⟩
/-- An old block, as it was. -/
theorem St.keep {b : Nat} {o : Obj} (h : St w0 F w L) (hb : w0.heap[b]? = some o) (hf : ¬ F b) : w.heap[b]? = some o := (h.frm.old b (Array.getElem?_eq_some_iff.1 hb).1 hf).trans hb
theorem St.keep_cell {p : Addr} {v : Value} (h : St w0 F w L) (hb : w0.cell? p = some v) (hf : ¬ F p.block) : w.cell? p = some v := (World.cell?_of_block (h.frm.old _ (World.block_lt_of_cell? w0 p hb) hf)).trans hb
end
end Go.Eng
