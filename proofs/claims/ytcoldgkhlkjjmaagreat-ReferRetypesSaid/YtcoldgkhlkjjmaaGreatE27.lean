/- The engine, part 27: a range over a function that reads what its body may write. -/
import Derived.Test.YtcoldgkhlkjjmaaGreatE26
namespace Go.Eng
open Go.RowKit
set_option linter.unusedVariables false
set_option linter.unusedSimpArgs false
/-- An iterator value, asg IterV, that leans on the caller's chunks: G holds of them, till the body says no more. -/
def IterG (P : Program) (fv : Value) (N : Nat) (X : Nat → List Value → List HP → Prop) (wr : World) (Kp : Nat → Prop) (G : List HP → Prop) : Prop :=
  ∀ y C Cs w c, YieldOk P y N X C Cs w c → (∀ k, Kp k → w.heap[k]? = wr.heap[k]? ∧ ¬ (Star c).foot k) → (∀ i c, C i c → G c) → C 0 c → Held w c →
    RetV P fv #[y] w (fun _ w' => ∃ c', (C N c' ∨ Cs c') ∧ Turn w c w' c')
section
variable {P : Program} {f : FuncId} {ro : Option Nat} {n : Nat} {R : Value → World → Prop} {k : List Item} {ds : List Deferred} {env : Env} {w0 w : World} {F : Nat → Prop} {A L : List HP}
/-- The statement 'for .. := range g', in a function's own frame. -/
theorem J_rangeG {G : List HP → Prop} {fop : Operand} {ps : List Tmp} {asg body : Code} {fv : Value} {N : Nat} {X : Nat → List Value → List HP → Prop} {wr : World} {Kp : Nat → Prop} (hs : St w0 F w (A ++ L)) (hf : ev env fop = some fv) (hfv : IsFun P fv) (it : IterG P fv N X wr Kp G)
    (C : Nat → List HP → Prop) (Cs : Code → List HP → Prop) (hG : ∀ l o i A1, C i A1 → G (Blk l o :: A1)) (h0 : C 0 A) (hKp : ∀ k, Kp k → w.heap[k]? = wr.heap[k]? ∧ ¬ (Star A).foot k ∧ k < w.heap.size) (hps : ∀ t ∈ ps, t < n) (hX : ∀ i vals cx, X i vals cx → vals.length = ps.length)
    (hbody : ∀ l D tm i w1 A1 cx vals, w.heap.size ≤ D → D < l → i < N → C i A1 → X i vals cx → Held w1 (Blk l (rec_ .ready none f tm ps.toArray asg body D) :: (A1 ++ cx)) → (∀ k, k < w.heap.size → ¬ (Star A).foot k → w1.heap[k]? = w.heap[k]?) →
      J P f (some l) n (RoundPost C Cs l D tm f ps.toArray asg body i w1 (Blk l (rec_ .ready none f tm ps.toArray asg body D) :: (A1 ++ cx))) [.code asg, .beginRound, .code body] [] (parEnv ps vals env) w1)
    (hdone : ∀ w2 D A2, C N A2 → St w0 F w2 (Blk D (.deferred (some [])) :: (A2 ++ L)) → J P f none n R k (⟨.collected D, #[]⟩ :: ds) env w2)
    (hstop : ∀ w2 D A2 j, Cs j A2 → St w0 F w2 (Blk D (.deferred (some [])) :: (A2 ++ L)) → J P f none n R (.code j :: k) (⟨.collected D, #[]⟩ :: ds) env w2) :
    J P f none n R (.code (.rangeFunc fop ps.toArray asg body) :: k) ds env w := by
  intro tmps cs hn hm
  -- entering
  obtain ⟨D, hD⟩ : ∃ D, w.heap.size = D := ⟨_, rfl⟩
  let w1 : World := w.alloc (.deferred (some []))
  let w2 : World := w1.alloc (rec_ .ready none f tmps ps.toArray asg body D)
  have hf1 := Fresh.alloc w (.deferred (some []))
  have hf2 := Fresh.alloc w1 (rec_ .ready none f tmps ps.toArray asg body D)
  have hs1 : w1.heap.size = D + 1 := by simp [w1, hD]
  rw [hD] at hf1
  rw [hs1] at hf2
  have hst : St w0 F w2 (Blk (D + 1) (rec_ .ready none f tmps ps.toArray asg body D) :: (A ++ (Blk D (.deferred (some [])) :: L))) := by
    have := ((hs.fresh hf1).fresh hf2)
    exact this.perm (List.Perm.cons _ (by simpa using (List.perm_middle (l₁ := A) (a := Blk D (.deferred (some []))) (l₂ := L)).symm))
  have he : (Instr.enterLoop (base f none).fn tmps ps.toArray asg body (base f none).roundOf).run P w = .ok (D + 1, [⟨.collected D, #[]⟩]) w2 := by
    simp only [Instr.enterLoop, base, newObj, Sem.run_bind, Sem.run, Result.andThen_ok, Sem.run_pure, hD]
    congr 1
    congr 1
  have hsz2 : w2.heap.size = D + 2 := by simp [w2, hs1]
  have hw2 : ∀ k, k < w.heap.size → w2.heap[k]? = w.heap[k]? := fun k hk => by
    rw [hf2.ext.block k (by rw [hs1]; omega), hf1.ext.block k hk]
  -- the function is called
  obtain ⟨c0, hc0⟩ : ∃ c0 : List HP, c0 = Blk (D + 1) (rec_ .ready none f tmps ps.toArray asg body D) :: A := ⟨_, rfl⟩
  have hheld : Held w2 c0 := by rw [hc0]; exact St.held (L := Blk D (.deferred (some [])) :: L) hst
  have hstar : ∀ k, k < w.heap.size → (Star c0).foot k → (Star A).foot k := fun k hk ⟨c, hc, hck⟩ => by
    rw [hc0] at hc
    rcases List.mem_cons.1 hc with rfl | hc
    · simp only [Blk] at hck; omega
    · exact ⟨c, hc, hck⟩
  have hy : YieldOk P (.func (.yield (D + 1)) #[] #[]) N X (fun i c => ∃ A1, c = Blk (D + 1) (rec_ .ready none f tmps ps.toArray asg body D) :: A1 ∧ C i A1)
      (fun c => ∃ j A1, c = Blk (D + 1) (rec_ .done (some j) f tmps ps.toArray asg body D) :: A1 ∧ Cs j A1) w2 c0 := by
    rintro i w3 vals cx c hi ⟨A1, rfl, hC⟩ hXi hh hF
    have hl : w3.heap[D + 1]? = some (rec_ .ready none f tmps ps.toArray asg body D) := hh.1.1 _ (List.mem_append_left _ List.mem_cons_self)
    have hlen := hX i vals cx hXi
    refine ⟨⟨.fn (.yield (D + 1)) #[], vals.toArray⟩, .round (D + 1) f ((ps.zip vals).foldl (fun (tm : Array Value) (x : Tmp × Value) => tm.setIfInBounds x.1 x.2) tmps) asg body, w3, ?_, ?_, ?_⟩
    · simp [Deferred.ofValue]
    · simp only [invoke, Instr.yield, Instr.getLoop, getObj, Sem.run_bind, Sem.run, hl, rec_, Result.andThen_ok, Sem.run_pure, List.size_toArray, hlen, ne_eq, not_true_eq_false, if_false]
      congr 2
      simp
    · intro cf cs'
      obtain ⟨hsz, hmt⟩ := parEnv_match ps vals tmps env hn hps hm hlen.symm
      have hJ := hbody (D + 1) D tmps i w3 A1 cx vals (by omega) (by omega) hi hC hXi hh (fun k hk hnA => by
        rw [hF.old k (by rw [hsz2]; omega) (fun hc => hnA (hstar k hk hc)), hw2 k hk])
      obtain ⟨v, w', fr, w'', hR, hst', hfin⟩ := hJ _ (cf :: cs') hsz hmt
      refine ⟨v, w', ?_, hst'.trans (hfin cf cs' rfl)⟩
      rcases hR with ⟨rfl, A', hA', ht⟩ | ⟨rfl, j, A', hA', ht⟩
      · exact ⟨_, .inl ⟨rfl, A', rfl, hA'⟩, ht⟩
      · exact ⟨_, .inr ⟨rfl, j, A', rfl, hA'⟩, ht⟩
  obtain ⟨d, nx, w3, hres, hinv, hnx⟩ := it (.func (.yield (D + 1)) #[] #[]) _ _ w2 c0 hy (fun k hk => by
    obtain ⟨h1, h2, h3⟩ := hKp k hk
    exact ⟨by rw [hw2 k h3]; exact h1, fun hc => h2 (hstar k h3 hc)⟩) (fun i c => by rintro ⟨A1, rfl, hC⟩; exact hG _ _ i A1 hC) ⟨A, hc0, h0⟩ hheld
  have hresolve : (resolve (Act.eval ⟨tmps, ds⟩) (rangeCall fop (D + 1)) 0).run P w2 = .ok d w2 := by
    have e : Act.eval ⟨tmps, ds⟩ fop = fv := hm.eval hf
    simp only [resolve, e]
    have e2 : (#[Operand.const (.func (.yield (D + 1)) #[] #[])] : Array Operand).map (Act.eval ⟨tmps, ds⟩) = #[.func (.yield (D + 1)) #[] #[]] := by simp [Act.eval]
    rw [e2]; exact hres
  -- what lies behind it
  have after : ∀ v w4 c', ((∃ A1, c' = Blk (D + 1) (rec_ .ready none f tmps ps.toArray asg body D) :: A1 ∧ C N A1) ∨ ∃ j A1, c' = Blk (D + 1) (rec_ .done (some j) f tmps ps.toArray asg body D) :: A1 ∧ Cs j A1) → Turn w2 c0 w4 c' →
      ∃ v' w' fr w'', R v' w' ∧ Steps P (lone (((base f none).atR ⟨tmps, ⟨.collected D, #[]⟩ :: ds⟩ (.inRangeFunc (D + 1) :: k)).finish v) cs w4) (lone fr cs w'') ∧ Fin P f none fr cs w'' v' w' := by
    intro v w4 c' hc' ht
    rw [finish_atR_inRangeFunc]
    have hst4 : St w0 F w4 (c' ++ (Blk D (.deferred (some [])) :: L)) := by
      refine St.take (A := c0) ?_ ht
      rw [hc0]; exact hst
    rcases hc' with ⟨A1, rfl, hC⟩ | ⟨j, A1, rfl, hC⟩
    · have hl : w4.heap[D + 1]? = some (rec_ .ready none f tmps ps.toArray asg body D) := hst4.all (Blk (D + 1) (rec_ .ready none f tmps ps.toArray asg body D)) (by simp)
      have hend : (Instr.endLoop (D + 1)).run P w4 = .ok none { w4 with heap := w4.heap.setIfInBounds (D + 1) (rec_ .exhausted none f tmps ps.toArray asg body D) } := by
        have hb : (LoopState.ready == LoopState.busy) = false := rfl
        simp [Instr.endLoop, Instr.getLoop, getObj, setObj, Sem.run, hl, rec_]
      have hst5 := hst4.set (b := D + 1) (o := rec_ .ready none f tmps ps.toArray asg body D) (o' := rec_ .exhausted none f tmps ps.toArray asg body D) (L' := Blk (D + 1) (rec_ .exhausted none f tmps ps.toArray asg body D) :: (A1 ++ (Blk D (.deferred (some [])) :: L))) (u := ⟨Up.head _ _ _⟩)
      have hst6 : St w0 F _ (Blk D (.deferred (some [])) :: (A1 ++ L)) := (hst5.sub (M := A1 ++ (Blk D (.deferred (some [])) :: L)) (List.sublist_cons_self _ _)).perm List.perm_middle
      obtain ⟨v', w', fr, w'', hR, hs', hfin⟩ := hdone _ D A1 hC hst6 tmps cs hn hm
      exact ⟨v', w', fr, w'', hR, .head (stepR_endRangeFunc hend) hs', hfin⟩
    · have hl : w4.heap[D + 1]? = some (rec_ .done (some j) f tmps ps.toArray asg body D) := hst4.all (Blk (D + 1) (rec_ .done (some j) f tmps ps.toArray asg body D)) (by simp)
      have hend : (Instr.endLoop (D + 1)).run P w4 = .ok (some j) { w4 with heap := w4.heap.setIfInBounds (D + 1) (rec_ .exhausted (some j) f tmps ps.toArray asg body D) } := by
        simp [Instr.endLoop, Instr.getLoop, getObj, setObj, Sem.run, hl, rec_]
      have hst5 := hst4.set (b := D + 1) (o := rec_ .done (some j) f tmps ps.toArray asg body D) (o' := rec_ .exhausted (some j) f tmps ps.toArray asg body D) (L' := Blk (D + 1) (rec_ .exhausted (some j) f tmps ps.toArray asg body D) :: (A1 ++ (Blk D (.deferred (some [])) :: L))) (u := ⟨Up.head _ _ _⟩)
      have hst6 : St w0 F _ (Blk D (.deferred (some [])) :: (A1 ++ L)) := (hst5.sub (M := A1 ++ (Blk D (.deferred (some [])) :: L)) (List.sublist_cons_self _ _)).perm List.perm_middle
      obtain ⟨v', w', fr, w'', hR, hs', hfin⟩ := hstop _ D A1 j hC hst6 tmps cs hn hm
      exact ⟨v', w', fr, w'', hR, .head (stepR_endRangeFunc hend) hs', hfin⟩
  obtain ⟨g0, cap, rfl, hen⟩ := hfv
  have hnx' : ∃ g as_, nx = .enter g as_ ∧ w3 = w2 := by
    simp only [Deferred.ofValue, Sem.run_pure, Result.ok.injEq] at hres
    obtain ⟨rfl, -⟩ := hres
    simp only [invoke] at hinv
    rw [hen] at hinv
    injection hinv with h1 h2
    exact ⟨_, _, h1.symm, h2.symm⟩
  cases nx with
  | enter g as_ =>
    obtain ⟨v, w4, fr1, ⟨c', hc', ht⟩, hst1, hfn, hlv⟩ := hnx ((base f none).atR ⟨tmps, ⟨.collected D, #[]⟩ :: ds⟩ (.inRangeFunc (D + 1) :: k) :: cs)
    obtain ⟨v', w', fr, w'', hR, hs', hfin⟩ := after v w4 c' hc' ht
    exact ⟨v', w', fr, w'', hR, .head (stepR_rangeFunc he hresolve hinv) (hst1.trans (.head (step_leave_returned hlv) hs')), hfin⟩
  | _ => obtain ⟨_, _, h, _⟩ := hnx'; cases h
end
end Go.Eng
