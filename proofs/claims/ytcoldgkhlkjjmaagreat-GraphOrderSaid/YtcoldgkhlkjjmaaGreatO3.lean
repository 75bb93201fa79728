/- The texts L19, L20, L21, L22, E27, L23, L24, L25, L26, L27, L28, L29, L31, L32, L33, L34, E28, E29, E30, G1, G2, G3, G4, joined: what of them serves. -/
import Derived.Test.YtcoldgkhlkjjmaaGreatO2
import Derived.Lib.AppendZerosOnto
import Derived.Lib.Overlaps
section
namespace Go.Eng
open Go.Proofs
set_option linter.unusedSimpArgs false
set_option linter.unusedVariables false
abbrev ZE := REnt × Ent
theorem src_blk3 {w : World} {b e : Nat} {r : REnt} {fz : Nat × Nat} (h : w.heap[b]? = some (.cells #[.int .i64 r.1, .slice r.2.1.1 r.2.1.2.1 r.2.1.2.2, .int .i64 r.2.2] e fz)) : Src w (some ⟨b, 0, none⟩) 1 3 (cR r) := by
  refine ⟨rfl, fun h => (nomatch h), fun u hu => ?_, fun b' o hb j u hj => ?_⟩
  · simp only [List.mem_cons, List.not_mem_nil, or_false] at hu
    rcases hu with rfl | rfl | rfl <;> rfl
  · cases hb
    exact cK h (by rw [Nat.zero_add]; exact hj)
theorem zip_get {rs : List REnt} {es : List Ent} {k : Nat} {r : REnt} {x : Ent} (hr : rs[k]? = some r) (hx : es[k]? = some x) : (r, x) ∈ rs.zip es := by
  refine List.mem_of_getElem? (i := k) ?_
  rw [List.getElem?_zip_eq_some]; exact ⟨hr, hx⟩
attribute [local irreducible] Hold J JL JD JX JXat OpR OpG Ret RetV Is Blk Row
set_option maxRecDepth 100000
set_option maxHeartbeats 1000000
end Go.Eng
end
section
namespace Go.Eng
open Go.Proofs
set_option linter.unusedSimpArgs false
set_option linter.unusedVariables false
theorem rowSl {w : World} {a : Option Addr} {n c e : Nat} {rs : List REnt} (h : RowV w a n c e 3 (encL cR rs)) (hok : ∀ r ∈ rs, okE r) : Sl fL All w a n c rs := (RowV.slF (d := fL) h (by decide) hok).weak (fun _ _ => trivial)
attribute [local irreducible] Hold J JL JD JX JXat OpR OpG Ret RetV Is Blk Row
set_option maxRecDepth 100000
set_option maxHeartbeats 1000000
end Go.Eng
end
section
namespace Go.Eng
open Go.Proofs
set_option linter.unusedSimpArgs false
set_option linter.unusedVariables false
attribute [local irreducible] Hold J JL JD JX JXat OpR OpG Ret RetV Is Blk Row
set_option maxRecDepth 100000
set_option maxHeartbeats 1000000
end Go.Eng
end
section
namespace Go.Eng
set_option linter.unusedSimpArgs false
set_option linter.unusedVariables false
def oA (es : List Ent) (h : Int) : Nat → Nat → Option Nat
  | 0, _ => none
  | f + 1, k => if (es.getD (dX h es.length k) e0).1 = 0 then some (dX h es.length k) else oA es h f (k + 1)
def tK (es : List Ent) (h : Int) : Option Nat := oA es h es.length 0
def insE (es : List Ent) (e : Ent) : List Ent := match tK es (ofM e.2.1) with | some q => es.set q e | none => es
theorem pG {es : List Ent} {h : Int} {q : Nat} : ∀ (f k : Nat), oA es h f k = some q → ∃ j, k ≤ j ∧ j < k + f ∧ q = dX h es.length j ∧ (es.getD q e0).1 = 0 ∧ ∀ i, k ≤ i → i < j → (es.getD (dX h es.length i) e0).1 ≠ 0
  | 0, k, e => by unfold oA at e; cases e
  | f + 1, k, e => by
    unfold oA at e
    by_cases c : (es.getD (dX h es.length k) e0).1 = 0
    · rw [if_pos c] at e
      cases e
      exact ⟨k, Nat.le_refl _, by omega, rfl, c, fun i h1 h2 => by omega⟩
    · rw [if_neg c] at e
      obtain ⟨j, h1, h2, h3, h4, h5⟩ := pG f (k + 1) e
      refine ⟨j, by omega, by omega, h3, h4, fun i hi hij => ?_⟩
      by_cases hik : i = k
      · rw [hik]; exact c
      · exact h5 i (by omega) hij
theorem pH {es : List Ent} {h : Int} : ∀ (f k : Nat), oA es h f k = none → ∀ i, k ≤ i → i < k + f → (es.getD (dX h es.length i) e0).1 ≠ 0
  | 0, k, e, i, h1, h2 => by omega
  | f + 1, k, e, i, h1, h2 => by
    unfold oA at e
    by_cases c : (es.getD (dX h es.length k) e0).1 = 0
    · rw [if_pos c] at e; cases e
    · rw [if_neg c] at e
      by_cases hik : i = k
      · rw [hik]; exact c
      · exact pH f (k + 1) e i (by omega) (by omega)
theorem xE (h : Int) {m q : Nat} (hq : q < m) : ∃ k, k < m ∧ dX h m k = q := by
  have hm : h.toNat % m < m := Nat.mod_lt _ (by omega)
  refine ⟨(q + m - h.toNat % m) % m, Nat.mod_lt _ (by omega), ?_⟩
  unfold dX
  rw [Nat.mod_mod, Nat.add_mod_mod, show h.toNat % m + (q + m - h.toNat % m) = q + m by omega, Nat.add_mod_right, Nat.mod_eq_of_lt hq]
theorem jW {es : List Ent} {q s : Nat} {e : Ent} (h : s ≠ q) : (es.set q e).getD s e0 = es.getD s e0 := by
  rw [List.getD_eq_getElem?_getD, List.getD_eq_getElem?_getD, List.getElem?_set_ne (by omega)]
theorem jX {es : List Ent} {q : Nat} {e : Ent} (h : q < es.length) : (es.set q e).getD q e0 = e := by
  rw [List.getD_eq_getElem?_getD, List.getElem?_set_self h]; rfl
theorem pD {es : List Ent} {t : List Int} {h : Int} {q : Nat} {e : Ent} (hq : (es.getD q e0).1 = 0) {i : Nat} : ∀ (f k : Nat), gI es t h f k = (i : Int) → gI (es.set q e) t h f k = (i : Int)
  | 0, k, w => by unfold gI at w; omega
  | f + 1, k, w => by
    unfold gI at w ⊢
    rw [List.length_set]
    by_cases c : (es.getD (dX h es.length k) e0).1 = 0
    · rw [if_pos c] at w; omega
    · have hne : dX h es.length k ≠ q := fun z => c (by rw [z]; exact hq)
      rw [jW hne, if_neg c]
      rw [if_neg c] at w
      split
      · rename_i c2; rw [if_pos c2] at w; exact w
      · rename_i c2; rw [if_neg c2] at w; exact pD hq f (k + 1) w
theorem nO {es : List Ent} {t : List Int} {h : Int} {j : Nat} : ∀ (f k : Nat), k ≤ j → j < k + f → (∀ i, k ≤ i → i < j → (es.getD (dX h es.length i) e0).1 ≠ 0 ∧ ¬ ((es.getD (dX h es.length i) e0).1 = 1 ∧ (es.getD (dX h es.length i) e0).2.1 = t)) → (es.getD (dX h es.length j) e0).1 = 1 → (es.getD (dX h es.length j) e0).2.1 = t → gI es t h f k = (dX h es.length j : Nat)
  | 0, k, h1, h2, _, _, _ => by omega
  | f + 1, k, h1, h2, hn, hj1, hj2 => by
    unfold gI
    by_cases c : k = j
    · subst c
      rw [if_neg (by omega), if_pos ⟨hj1, hj2⟩]
    · obtain ⟨n1, n2⟩ := hn k (Nat.le_refl _) (by omega)
      rw [if_neg n1, if_neg n2]
      exact nO f (k + 1) (by omega) (by omega) (fun i hi hij => hn i (by omega) hij) hj1 hj2
theorem vQ {es : List Ent} {q : Nat} {x e : Ent} (hx : es[q]? = some x) (hx1 : x.1 ≠ 1) (he : e.1 = 1) : ((es.set q e).filter dW).Perm (es.filter dW ++ [e]) := by
  have hq := (List.getElem?_eq_some_iff.1 hx).1
  have h1 : es = es.take q ++ x :: es.drop (q + 1) := by
    conv => lhs; rw [← List.take_append_drop q es, List.drop_eq_getElem_cons hq, (List.getElem?_eq_some_iff.1 hx).2]
  have h2 : es.set q e = es.take q ++ e :: es.drop (q + 1) := by
    rw [List.set_eq_take_append_cons_drop, if_pos hq]
  rw [h2]
  conv => rhs; rw [h1]
  rw [List.filter_append, List.filter_append, List.filter_cons_of_pos (by simp [dW, he]), List.filter_cons_of_neg (by simp [dW, hx1])]
  refine List.perm_middle.trans ?_
  exact (List.perm_append_comm (l₁ := [e])).trans (List.Perm.refl _)
structure Lay (many : Nat) (done es : List Ent) : Prop where
  len : es.length = many
  el : ∀ x ∈ es, x = e0 ∨ x.1 = 1
  perm : (es.filter dW).Perm done
  at_ : ∀ (i : Nat) (x : Ent), es[i]? = some x → x.1 = 1 → fG es x.2.1 = (i : Int)
theorem Lay.start (many : Nat) : Lay many [] (List.replicate many e0) :=
  ⟨by simp, fun x hx => .inl (List.eq_of_mem_replicate hx), by
    rw [List.filter_eq_nil_iff.2 (fun x hx => by rw [List.eq_of_mem_replicate hx]; decide)], fun i x hx h1 => by
    have := List.eq_of_mem_replicate (List.mem_of_getElem? hx)
    rw [this] at h1; exact absurd h1 (by decide)⟩
theorem Lay.free {many : Nat} {done es : List Ent} (h : Lay many done es) (hlt : done.length < many) (g : Int) : ∃ q, tK es g = some q := by
  cases hf : tK es g with
  | some q => exact ⟨q, rfl⟩
  | none =>
    exfalso
    have hall : ∀ x ∈ es, x.1 ≠ 0 := by
      intro x hx
      obtain ⟨q, hq⟩ := List.mem_iff_getElem?.1 hx
      obtain ⟨k, hk, hp⟩ := xE g (m := es.length) (List.getElem?_eq_some_iff.1 hq).1
      have := pH _ _ hf k (Nat.zero_le _) (by omega)
      rw [hp, fA hq] at this
      exact this
    have hfe : es.filter dW = es := List.filter_eq_self.2 (fun x hx => by
      rcases h.el x hx with rfl | h1
      · exact absurd rfl (hall _ hx)
      · exact decide_eq_true h1)
    have := h.perm.length_eq
    rw [hfe, h.len] at this
    omega
theorem Lay.step {many : Nat} {done es : List Ent} (h : Lay many done es) {e : Ent} (he : e.1 = 1) (hd : ∀ y ∈ done, y.2.1 ≠ e.2.1) (hlt : done.length < many) :
    ∃ q, tK es (ofM e.2.1) = some q ∧ insE es e = es.set q e ∧ Lay many (done ++ [e]) (es.set q e) := by
  obtain ⟨q, hq⟩ := h.free hlt (ofM e.2.1)
  refine ⟨q, hq, by unfold insE; rw [hq], ?_⟩
  obtain ⟨j, _, hj, hqj, hq0, hbef⟩ := pG _ _ hq
  have hlen := h.len
  have hql : q < es.length := by rw [hqj]; exact kG _ _ (by omega)
  have hx : es[q]? = some es[q] := List.getElem?_eq_getElem hql
  have hx0 : es[q].1 = 0 := by rw [← fA hx]; exact hq0
  have hnew : fG (es.set q e) e.2.1 = (q : Int) := by
    unfold fG
    rw [List.length_set]
    have := nO (es := es.set q e) (t := e.2.1) (h := ofM e.2.1) (j := j) es.length 0 (Nat.zero_le _) hj (fun i hi hij => ?_) ?_ ?_
    · rw [this, List.length_set, ← hqj]
    · rw [List.length_set]
      have hb := hbef i hi hij
      have hne : dX (ofM e.2.1) es.length i ≠ q := fun z => hb (by rw [z]; exact hq0)
      rw [jW hne]
      refine ⟨hb, fun z => ?_⟩
      have hsl : dX (ofM e.2.1) es.length i < es.length := kG _ _ (by omega)
      have hy : es[dX (ofM e.2.1) es.length i]? = some (es[dX (ofM e.2.1) es.length i]'hsl) := List.getElem?_eq_getElem hsl
      rw [fA hy] at z
      refine hd _ (h.perm.mem_iff.1 (List.mem_filter.2 ⟨List.mem_of_getElem? hy, decide_eq_true z.1⟩)) z.2
    · rw [List.length_set, ← hqj, jX hql]; exact he
    · rw [List.length_set, ← hqj, jX hql]
  refine ⟨by rw [List.length_set]; exact hlen, fun x hx' => ?_, ?_, fun i x hi h1 => ?_⟩
  · rcases List.mem_or_eq_of_mem_set hx' with hm | rfl
    · exact h.el x hm
    · exact .inr he
  · exact (vQ hx (by omega) he).trans (h.perm.append_right [e])
  · rw [List.getElem?_set] at hi
    split at hi
    · rename_i hqi
      subst hqi
      try rw [if_pos hql] at hi
      cases hi
      exact hnew
    · have := h.at_ i x hi h1
      unfold fG at this ⊢
      rw [List.length_set]
      exact pD hq0 _ _ this
theorem Lay.check {many : Nat} {done es : List Ent} (h : Lay many done es) (hp : powB many = true) (hok : ∀ x ∈ done, dR x.2.1 = true ∧ 0 ≤ x.2.2) (h4 : 4 * done.length ≤ 3 * many) (h5 : done.length ≤ 4000) : dD es = true := by
  have h01 : ∀ x ∈ es, x.1 = 0 ∨ x.1 = 1 := fun x hx => by
    rcases h.el x hx with rfl | h1
    · exact .inl rfl
    · exact .inr h1
  have hst : stOk es = true := by
    unfold stOk; rw [List.all_eq_true]
    exact fun x hx => decide_eq_true (by have := h01 x hx; omega)
  have htk : pX es = done.length := by
    unfold pX cnt
    have e2 : es.filter (fun x => decide (x.1 = 2)) = [] := List.filter_eq_nil_iff.2 (fun x hx => by have := h01 x hx; simp; omega)
    rw [e2, List.length_nil, Nat.add_zero]
    exact h.perm.length_eq
  unfold powB at hp
  rw [Bool.and_eq_true, decide_eq_true_eq, decide_eq_true_eq] at hp
  unfold dD oU
  rw [htk, hst, h.len, decide_eq_true hp.1, decide_eq_true hp.2, decide_eq_true h4, decide_eq_true h5]
  rw [Bool.true_and, Bool.true_and, Bool.true_and, Bool.true_and, Bool.true_and, qG]
  intro i hi
  have hx : es[i]? = some (es[i]'(by rw [h.len]; exact hi)) := List.getElem?_eq_getElem _
  obtain ⟨x, hxd⟩ : ∃ x, x = es[i]'(by rw [h.len]; exact hi) := ⟨_, rfl⟩
  rw [← hxd] at hx
  have hmem := List.mem_of_getElem? hx
  unfold lQ
  rw [fA hx]
  by_cases c : x.1 = 1
  · rw [if_pos c]
    obtain ⟨o1, o2⟩ := hok x (h.perm.mem_iff.1 (List.mem_filter.2 ⟨hmem, decide_eq_true c⟩))
    rw [o1, decide_eq_true o2, decide_eq_true (h.at_ i x hx c)]; rfl
  · rw [if_neg c]
    rcases h.el x hmem with rfl | h1
    · decide
    · exact absurd h1 c
end Go.Eng
end
section
namespace Go.Eng
open Go.RowKit
set_option linter.unusedVariables false
set_option linter.unusedSimpArgs false
def IterG (P : Program) (fv : Value) (N : Nat) (X : Nat → List Value → List HP → Prop) (wr : World) (Kp : Nat → Prop) (G : List HP → Prop) : Prop :=
  ∀ y C Cs w c, qY P y N X C Cs w c → (∀ k, Kp k → w.heap[k]? = wr.heap[k]? ∧ ¬ (Star c).foot k) → (∀ i c, C i c → G c) → C 0 c → Held w c →
    RetV P fv #[y] w (fun _ w' => ∃ c', (C N c' ∨ Cs c') ∧ Turn w c w' c')
section
variable {P : Program} {f : FuncId} {ro : Option Nat} {n : Nat} {R : Value → World → Prop} {k : List Item} {ds : List Deferred} {env : Env} {w0 w : World} {F : Nat → Prop} {A L : List HP}
theorem J_rangeG {G : List HP → Prop} {fop : Operand} {ps : List Tmp} {asg body : Code} {fv : Value} {N : Nat} {X : Nat → List Value → List HP → Prop} {wr : World} {Kp : Nat → Prop} (hs : St w0 F w (A ++ L)) (hf : ev env fop = some fv) (hfv : IsFun P fv) (it : IterG P fv N X wr Kp G)
    (C : Nat → List HP → Prop) (Cs : Code → List HP → Prop) (hG : ∀ l o i A1, C i A1 → G (Blk l o :: A1)) (h0 : C 0 A) (hKp : ∀ k, Kp k → w.heap[k]? = wr.heap[k]? ∧ ¬ (Star A).foot k ∧ k < w.heap.size) (hps : ∀ t ∈ ps, t < n) (hX : ∀ i vals cx, X i vals cx → vals.length = ps.length)
    (hbody : ∀ l D tm i w1 A1 cx vals, w.heap.size ≤ D → D < l → i < N → C i A1 → X i vals cx → Held w1 (Blk l (rec_ .ready none f tm ps.toArray asg body D) :: (A1 ++ cx)) → (∀ k, k < w.heap.size → ¬ (Star A).foot k → w1.heap[k]? = w.heap[k]?) →
      J P f (some l) n (sQ C Cs l D tm f ps.toArray asg body i w1 (Blk l (rec_ .ready none f tm ps.toArray asg body D) :: (A1 ++ cx))) [.code asg, .beginRound, .code body] [] (rU ps vals env) w1)
    (hdone : ∀ w2 D A2, C N A2 → St w0 F w2 (Blk D (.deferred (some [])) :: (A2 ++ L)) → J P f none n R k (⟨.collected D, #[]⟩ :: ds) env w2)
    (hstop : ∀ w2 D A2 j, Cs j A2 → St w0 F w2 (Blk D (.deferred (some [])) :: (A2 ++ L)) → J P f none n R (.code j :: k) (⟨.collected D, #[]⟩ :: ds) env w2) :
    J P f none n R (.code (.rangeFunc fop ps.toArray asg body) :: k) ds env w := by
  intro tmps cs hn hm
  -- entering
  obtain ⟨D, hD⟩ : ∃ D, w.heap.size = D := ⟨_, rfl⟩
  let w1 : World := w.alloc (.deferred (some []))
  let w2 : World := w1.alloc (rec_ .ready none f tmps ps.toArray asg body D)
  have hf1 := Fresh.alloc w (.deferred (some []))
  have hf2 := Fresh.alloc w1 (rec_ .ready none f tmps ps.toArray asg body D)
  have hs1 : w1.heap.size = D + 1 := by simp [w1, hD]
  rw [hD] at hf1
  rw [hs1] at hf2
  have hst : St w0 F w2 (Blk (D + 1) (rec_ .ready none f tmps ps.toArray asg body D) :: (A ++ (Blk D (.deferred (some [])) :: L))) := by
    have := ((hs.fresh hf1).fresh hf2)
    exact this.perm (List.Perm.cons _ (by simpa using (List.perm_middle (l₁ := A) (a := Blk D (.deferred (some []))) (l₂ := L)).symm))
  have he : (Instr.enterLoop (base f none).fn tmps ps.toArray asg body (base f none).roundOf).run P w = .ok (D + 1, [⟨.collected D, #[]⟩]) w2 := by
    simp only [Instr.enterLoop, base, newObj, Sem.run_bind, Sem.run, Result.andThen_ok, Sem.run_pure, hD]
    congr 1
    congr 1
  have hsz2 : w2.heap.size = D + 2 := by simp [w2, hs1]
  have hw2 : ∀ k, k < w.heap.size → w2.heap[k]? = w.heap[k]? := fun k hk => by
    rw [hf2.ext.block k (by rw [hs1]; omega), hf1.ext.block k hk]
  -- the function is called
  obtain ⟨c0, hc0⟩ : ∃ c0 : List HP, c0 = Blk (D + 1) (rec_ .ready none f tmps ps.toArray asg body D) :: A := ⟨_, rfl⟩
  have hheld : Held w2 c0 := by rw [hc0]; exact St.held (L := Blk D (.deferred (some [])) :: L) hst
  have hstar : ∀ k, k < w.heap.size → (Star c0).foot k → (Star A).foot k := fun k hk ⟨c, hc, hck⟩ => by
    rw [hc0] at hc
    rcases List.mem_cons.1 hc with rfl | hc
    · simp only [Blk] at hck; omega
    · exact ⟨c, hc, hck⟩
  have hy : qY P (.func (.yield (D + 1)) #[] #[]) N X (fun i c => ∃ A1, c = Blk (D + 1) (rec_ .ready none f tmps ps.toArray asg body D) :: A1 ∧ C i A1)
      (fun c => ∃ j A1, c = Blk (D + 1) (rec_ .done (some j) f tmps ps.toArray asg body D) :: A1 ∧ Cs j A1) w2 c0 := by
    rintro i w3 vals cx c hi ⟨A1, rfl, hC⟩ hXi hh hF
    have hl : w3.heap[D + 1]? = some (rec_ .ready none f tmps ps.toArray asg body D) := hh.1.1 _ (List.mem_append_left _ List.mem_cons_self)
    have hlen := hX i vals cx hXi
    refine ⟨⟨.fn (.yield (D + 1)) #[], vals.toArray⟩, .round (D + 1) f ((ps.zip vals).foldl (fun (tm : Array Value) (x : Tmp × Value) => tm.setIfInBounds x.1 x.2) tmps) asg body, w3, ?_, ?_, ?_⟩
    · simp [Deferred.ofValue]
    · simp only [invoke, Instr.yield, Instr.getLoop, getObj, Sem.run_bind, Sem.run, hl, rec_, Result.andThen_ok, Sem.run_pure, List.size_toArray, hlen, ne_eq, not_true_eq_false, if_false]
      congr 2
      simp
    · intro cf cs'
      obtain ⟨hsz, hmt⟩ := mQ ps vals tmps env hn hps hm hlen.symm
      have hJ := hbody (D + 1) D tmps i w3 A1 cx vals (by omega) (by omega) hi hC hXi hh (fun k hk hnA => by
        rw [hF.old k (by rw [hsz2]; omega) (fun hc => hnA (hstar k hk hc)), hw2 k hk])
      obtain ⟨v, w', fr, w'', hR, hst', hfin⟩ := hJ _ (cf :: cs') hsz hmt
      refine ⟨v, w', ?_, hst'.trans (hfin cf cs' rfl)⟩
      rcases hR with ⟨rfl, A', hA', ht⟩ | ⟨rfl, j, A', hA', ht⟩
      · exact ⟨_, .inl ⟨rfl, A', rfl, hA'⟩, ht⟩
      · exact ⟨_, .inr ⟨rfl, j, A', rfl, hA'⟩, ht⟩
  obtain ⟨d, nx, w3, hres, hinv, hnx⟩ := it (.func (.yield (D + 1)) #[] #[]) _ _ w2 c0 hy (fun k hk => by
    obtain ⟨h1, h2, h3⟩ := hKp k hk
    exact ⟨by rw [hw2 k h3]; exact h1, fun hc => h2 (hstar k h3 hc)⟩) (fun i c => by rintro ⟨A1, rfl, hC⟩; exact hG _ _ i A1 hC) ⟨A, hc0, h0⟩ hheld
  have hresolve : (resolve (Act.eval ⟨tmps, ds⟩) (rangeCall fop (D + 1)) 0).run P w2 = .ok d w2 := by
    have e : Act.eval ⟨tmps, ds⟩ fop = fv := hm.eval hf
    simp only [resolve, e]
    have e2 : (#[Operand.const (.func (.yield (D + 1)) #[] #[])] : Array Operand).map (Act.eval ⟨tmps, ds⟩) = #[.func (.yield (D + 1)) #[] #[]] := by simp [Act.eval]
    rw [e2]; exact hres
  -- what lies behind it
  have after : ∀ v w4 c', ((∃ A1, c' = Blk (D + 1) (rec_ .ready none f tmps ps.toArray asg body D) :: A1 ∧ C N A1) ∨ ∃ j A1, c' = Blk (D + 1) (rec_ .done (some j) f tmps ps.toArray asg body D) :: A1 ∧ Cs j A1) → Turn w2 c0 w4 c' →
      ∃ v' w' fr w'', R v' w' ∧ Steps P (lone (((base f none).atR ⟨tmps, ⟨.collected D, #[]⟩ :: ds⟩ (.inRangeFunc (D + 1) :: k)).finish v) cs w4) (lone fr cs w'') ∧ Fin P f none fr cs w'' v' w' := by
    intro v w4 c' hc' ht
    rw [finish_atR_inRangeFunc]
    have hst4 : St w0 F w4 (c' ++ (Blk D (.deferred (some [])) :: L)) := by
      refine St.take (A := c0) ?_ ht
      rw [hc0]; exact hst
    rcases hc' with ⟨A1, rfl, hC⟩ | ⟨j, A1, rfl, hC⟩
    · have hl : w4.heap[D + 1]? = some (rec_ .ready none f tmps ps.toArray asg body D) := hst4.all (Blk (D + 1) (rec_ .ready none f tmps ps.toArray asg body D)) (by simp)
      have hend : (Instr.endLoop (D + 1)).run P w4 = .ok none { w4 with heap := w4.heap.setIfInBounds (D + 1) (rec_ .exhausted none f tmps ps.toArray asg body D) } := by
        have hb : (LoopState.ready == LoopState.busy) = false := rfl
        simp [Instr.endLoop, Instr.getLoop, getObj, setObj, Sem.run, hl, rec_]
      have hst5 := hst4.set (b := D + 1) (o := rec_ .ready none f tmps ps.toArray asg body D) (o' := rec_ .exhausted none f tmps ps.toArray asg body D) (L' := Blk (D + 1) (rec_ .exhausted none f tmps ps.toArray asg body D) :: (A1 ++ (Blk D (.deferred (some [])) :: L))) (u := ⟨Up.head _ _ _⟩)
      have hst6 : St w0 F _ (Blk D (.deferred (some [])) :: (A1 ++ L)) := (hst5.sub (M := A1 ++ (Blk D (.deferred (some [])) :: L)) (List.sublist_cons_self _ _)).perm List.perm_middle
      obtain ⟨v', w', fr, w'', hR, hs', hfin⟩ := hdone _ D A1 hC hst6 tmps cs hn hm
      exact ⟨v', w', fr, w'', hR, .head (stepR_endRangeFunc hend) hs', hfin⟩
    · have hl : w4.heap[D + 1]? = some (rec_ .done (some j) f tmps ps.toArray asg body D) := hst4.all (Blk (D + 1) (rec_ .done (some j) f tmps ps.toArray asg body D)) (by simp)
      have hend : (Instr.endLoop (D + 1)).run P w4 = .ok (some j) { w4 with heap := w4.heap.setIfInBounds (D + 1) (rec_ .exhausted (some j) f tmps ps.toArray asg body D) } := by
        simp [Instr.endLoop, Instr.getLoop, getObj, setObj, Sem.run, hl, rec_]
      have hst5 := hst4.set (b := D + 1) (o := rec_ .done (some j) f tmps ps.toArray asg body D) (o' := rec_ .exhausted (some j) f tmps ps.toArray asg body D) (L' := Blk (D + 1) (rec_ .exhausted (some j) f tmps ps.toArray asg body D) :: (A1 ++ (Blk D (.deferred (some [])) :: L))) (u := ⟨Up.head _ _ _⟩)
      have hst6 : St w0 F _ (Blk D (.deferred (some [])) :: (A1 ++ L)) := (hst5.sub (M := A1 ++ (Blk D (.deferred (some [])) :: L)) (List.sublist_cons_self _ _)).perm List.perm_middle
      obtain ⟨v', w', fr, w'', hR, hs', hfin⟩ := hstop _ D A1 j hC hst6 tmps cs hn hm
      exact ⟨v', w', fr, w'', hR, .head (stepR_endRangeFunc hend) hs', hfin⟩
  obtain ⟨g0, cap, rfl, hen⟩ := hfv
  have hnx' : ∃ g as_, nx = .enter g as_ ∧ w3 = w2 := by
    simp only [Deferred.ofValue, Sem.run_pure, Result.ok.injEq] at hres
    obtain ⟨rfl, -⟩ := hres
    simp only [invoke] at hinv
    rw [hen] at hinv
    injection hinv with h1 h2
    exact ⟨_, _, h1.symm, h2.symm⟩
  cases nx with
  | enter g as_ =>
    obtain ⟨v, w4, fr1, ⟨c', hc', ht⟩, hst1, hfn, hlv⟩ := hnx ((base f none).atR ⟨tmps, ⟨.collected D, #[]⟩ :: ds⟩ (.inRangeFunc (D + 1) :: k) :: cs)
    obtain ⟨v', w', fr, w'', hR, hs', hfin⟩ := after v w4 c' hc' ht
    exact ⟨v', w', fr, w'', hR, .head (stepR_rangeFunc he hresolve hinv) (hst1.trans (.head (step_leave_returned hlv) hs')), hfin⟩
  | _ => obtain ⟨_, _, h, _⟩ := hnx'; cases h
end
end Go.Eng
end
section
namespace Go.Eng
open Go.Proofs
set_option linter.unusedSimpArgs false
set_option linter.unusedVariables false
abbrev dH (a : Option Addr) (n c : Nat) (rs : List REnt) : HP := Row a n c 139 3 (encL cR rs)
theorem tabSl {W : World} {a : Option Addr} {n c : Nat} {rs : List REnt} (h : (dH a n c rs).holds W) (hok : ∀ r ∈ rs, okE r) : Sl fL All W a n c rs := rowSl h hok
def turnKG (bt bl : Nat) (a2 : Option Addr) (n2 : Nat) (k : Nat) : Prop := k = bt ∨ k = bl ∨ (dN a2 k ∧ 0 < n2)
theorem yC {es : List Ent} {h : Int} {k : Nat} (hk : k < es.length) {q : Nat} (hq : q = dX h es.length k) {x : Ent} (hx : es[q]? = some x) :
    oA es h (es.length - k) k = if x.1 = 0 then some q else oA es h (es.length - (k + 1)) (k + 1) := by
  rw [show es.length - k = (es.length - (k + 1)) + 1 by omega, oA, ← hq, fA hx]
attribute [local irreducible] Hold J JL JD JX JXat OpR OpG Ret RetV Is Blk Row
set_option maxRecDepth 100000
set_option maxHeartbeats 1000000
theorem sX (wr : World) (bt bl : Nat) (a2 : Option Addr) (n2 c2 : Nat) (t : List Int) (a : Option Addr) (n c : Nat) (rs : List REnt) (h2 : Sl (tInt .u64) (fun k => dN a2 k ∧ 0 < n2) wr a2 n2 c2 t) (hl : rs.length = n) (hok : ∀ r ∈ rs, okE r) (hn : n ≤ 1048576)
    (hbt : wr.heap[bt]? = some (.cells #[.slice a2 n2 c2] 43 (0, 0))) (hbl : wr.heap[bl]? = some (.cells #[.slice a n c] 55 (0, 0))) :
    IterG Tryz.prog (.func (.func 243) #[] #[ptr bt, ptr bl]) n (turnX rs (ofM t)) wr (turnKG bt bl a2 n2) (fun cc => dH a n c rs ∈ cc) := by
  intro y C Cs w c0 hy hK hGd h0 hheld
  refine RetV.closure (avs := [_]) (cap := [_, _]) en243 ?_
  refine cG (l := [_, _, _]) Tryz.func243 rfl Tryz.ntmps243 (by simp) ?_
  have hs := hheld.st
  have htw := (hK bt (.inl rfl)).1.trans hbt
  have htF := (hK bt (.inl rfl)).2
  have hlw := (hK bl (.inr (.inl rfl))).1.trans hbl
  have hlF := (hK bl (.inr (.inl rfl))).2
  have hh := xI t
  have h2w : ∀ {W : World} {L : List HP}, St w (Star c0).foot W L → Sl (tInt .u64) All W a2 n2 c2 t := fun hs => (h2.loc (fun k hk hlt => hs.keepK (hK k (.inr (.inr hk))).1 (hK k (.inr (.inr hk))).2 hlt)).weak (fun _ _ => trivial)
  repeat' (first | ((apply aW 244; refine JL_o (by exact aC en244 rfl (hof_r _ a2 n2 c2 t (h2w hs))) rfl rfl ?_; rintro _ _ ⟨rfl, hE⟩; have hs := hs.ext hE; (try simp only [zcc] at hs))) | (apply aR) | ((apply aI); (first | (apply aV; first | exact bT (hs.keep_cell (cK (off := 0) htw rfl) htF) rfl aA | exact bT (hs.keep_cell (cK (off := 0) hlw rfl) hlF) rfl aA) | (apply aQ; exact aH rfl aA) | (apply aF; exact aB rfl aA) | (apply aT; exact aP rfl rfl aA) | (apply bL; exact bY rfl aA)); first | (exact rfl; exact rfl) | exact rfl) | (apply bB) | (apply aG) | (apply bC))
  refine dG (α := Nat × List HP) [(0, _), (2, _), (4, _), (12, _)] (fun g => [(13, .int .i64 g.1)]) (fun g w' => St w (Star c0).foot w' g.2 ∧ C g.1 g.2 ∧ g.1 ≤ n) (fun g => n - g.1) (0, c0) ⟨hs, h0, by omega⟩ zss ?_
  rintro ⟨k, ck⟩ w' ⟨hs, hC, hk⟩ ih
  dsimp only at hs hC hk ih ⊢
  have hmem : dH a n c rs ∈ ck := hGd _ _ hC
  have hrw : ∀ {W : World}, St w (Star c0).foot W ck → Sl fL All W a n c rs := fun hs => tabSl (hs.all _ hmem) hok
  by_cases hlt : k < n
  · obtain ⟨p1, o1, rfl⟩ := (hrw hs).sl.addr (by omega)
    obtain ⟨q, hqd⟩ : ∃ q, q = dX (ofM t) n k := ⟨_, rfl⟩
    have hq : q < n := by rw [hqd]; exact kG _ _ (by omega)
    have hx : rs[q]? = some rs[q] := List.getElem?_eq_getElem (by omega)
    obtain ⟨r, hrd⟩ : ∃ r, r = rs[q] := ⟨_, rfl⟩
    rw [← hrd] at hx
    have hX : turnX rs (ofM t) k [.int .i64 (q : Nat), .agg (cR r).toArray] [] := ⟨r, by rw [hl, ← hqd]; exact hx, by rw [hl, ← hqd], rfl⟩
    repeat' (first | ((apply aW 245; refine JL_o (by exact aC en245 rfl (xD _ (ofM t) n k hh ⟨by omega, by omega⟩)) rfl rfl ?_; rintro _ _ ⟨rfl, hE⟩; rw [← hqd]; have hs := hs.ext hE; (try simp only [zcc] at hs))) | ((apply cW; have hs2 : St w (Star c0).foot _ ((ck ++ []) ++ []) := (by simpa using hs); refine cX (t := 35) rfl gb (cH rfl rfl (hy k _ [_, _] _ ck hlt hC hX hs2.held hs2.frm)) rfl rfl ?_; rintro _ _ ⟨c', ⟨rfl, hC'⟩ | ⟨rfl, hC'⟩, ht⟩ <;> have hs : St w (Star c0).foot _ c' := (hs2.take ht).sub (List.sublist_append_left _ _))) | (apply aR) | ((first | (apply aI) | (apply bX; exact rfl; exact gb)); (first | (apply aV; first | exact bT (hs.keep_cell (cK (off := 0) hlw rfl) hlF) rfl aA | exact bI (hrw hs) hx rfl rfl aA) | (apply aQ; exact aH rfl aA) | (apply aF; exact aB rfl aA) | (apply aT; exact aP rfl rfl aA) | (apply cJ; exact bR rfl rfl (by omega) (by first | (simp only [Int.reduceAdd]; exact rfl) | exact rfl) aA) | (apply aK; exact aM rfl rfl rfl aA) | (apply cB; exact cE rfl aA) | (apply cF; exact bO rfl gb rfl aA) | (apply bL; exact bY rfl aA) | (apply bS; exact bM rfl rfl aA) | (apply aO; exact aN rfl rfl (by omega) (by omega) aA)); first | (exact rfl; exact rfl) | exact rfl) | (apply bB) | (apply aG) | (apply bC) | (apply bN) | (apply bJ) | (apply aS; first | refine bF rfl ob ?_ | refine bZ rfl gb ?_ | refine bV rfl gb ?_))
    · refine ih (k + 1, c') _ _ ⟨hs, hC', by dsimp only; omega⟩ (by dsimp only; omega) zss
    · refine aY Tryz.func243 rfl .nil ⟨c', .inr hC', St.turned (M := []) (by simpa using hs)⟩
  · have hkn : k = n := by omega
    subst hkn
    repeat' (first | (apply aR) | ((apply aI); (apply aK; exact aM rfl rfl rfl aA); first | (exact rfl; exact rfl) | exact rfl) | (apply bB) | (apply aG) | (apply cI; refine cZ rfl ?_) | (apply aS; refine bK rfl ob ?_))
    refine fD Tryz.func243 rfl .nil ⟨ck, .inl hC, St.turned (M := []) (by simpa using hs)⟩
end Go.Eng
end
section
namespace Go.Eng
open Go.Proofs
set_option linter.unusedSimpArgs false
set_option linter.unusedVariables false
theorem yW {b k : Nat} {o : Obj} (h : (Blk b o).foot k) : k = b := h
theorem tab_foot {a : Option Addr} {n c : Nat} {rs : List REnt} {k : Nat} (h : dN a k) : (Star [dH a n c rs]).foot k := ⟨_, .head _, h⟩
theorem nH {a : Option Addr} {n c : Nat} {rs : List REnt} {k : Nat} (h : (Star [dH a n c rs]).foot k) : dN a k := by
  obtain ⟨c, hc, hk⟩ := h
  rw [List.mem_singleton.1 hc] at hk; exact hk
theorem tab_set {a : Option Addr} {n c : Nat} {rs : List REnt} {q : Nat} (r : REnt) (h : q < rs.length) : Row a n c 139 3 (bQ (encL cR rs) (q * 3) (cR r)) = dH a n c (rs.set q r) := by
  unfold dH
  rw [show encL cR (rs.set q r) = bQ (encL cR rs) (q * 3) (cR r) from jZ (d := fL) rs q r h]
attribute [local irreducible] Hold J JL JD JX JXat OpR OpG Ret RetV Is Blk Row
set_option maxRecDepth 100000
set_option maxHeartbeats 1000000
theorem laid1_r (w : World) (b : Nat) (a : Option Addr) (n c : Nat) (rs : List REnt) (es : List Ent) (r : REnt) (x : Ent) (q : Nat) (hb : w.heap[b]? = some (.cells #[.slice a n c] 55 (0, 0))) (hh0 : Held w [dH a n c rs]) (hbF : ¬ dN a b) (hlen : rs.length = n) (hle : es.length = n) (hok : ∀ r ∈ rs, okE r)
    (hst : ∀ (i : Nat) (u : REnt) (v : Ent), rs[i]? = some u → es[i]? = some v → u.1 = v.1) (hm : Sl (tInt .u64) (fun k => dN r.2.1.1 k ∧ 0 < r.2.1.2.1) w r.2.1.1 r.2.1.2.1 r.2.1.2.2 x.2.1) (hsep : ∀ k, dN r.2.1.1 k ∧ 0 < r.2.1.2.1 → ¬ dN a k) (hn : n ≤ 1048576) (hfree : tK es (ofM x.2.1) = some q) :
    Ret Tryz.prog 232 #[.agg (cR r).toArray, ptr b] w fun _ w' => Turn w [dH a n c rs] w' [dH a n c (rs.set q r)] := by
  refine cG (l := [_, _]) Tryz.func232 rfl Tryz.ntmps232 (by simp) ?_
  have hn0 : 0 < n := by
    rcases Nat.eq_zero_or_pos n with h | h
    · exfalso
      unfold tK at hfree
      rw [hle, h] at hfree
      cases hfree
    · exact h
  obtain ⟨p, o, rfl⟩ := (tabSl (hh0.1.1 _ (.head _)) hok).sl.addr hn0
  have hs := hh0.st
  have hbF' : ¬ (Star [dH (some ⟨p, o, none⟩) n c rs]).foot b := fun h => hbF (nH h)
  have hsl := tabSl (hh0.1.1 _ (.head _)) hok
  have hmw : ∀ {W : World} {L : List HP}, St w (Star [dH (some ⟨p, o, none⟩) n c rs]).foot W L → Sl (tInt .u64) (fun k => dN r.2.1.1 k ∧ 0 < r.2.1.2.1) W r.2.1.1 r.2.1.2.1 r.2.1.2.2 x.2.1 := fun hs => hm.loc (fun k hk hlt => hs.frm.old k hlt (fun h => hsep k hk (nH h)))
  repeat' (first | ((apply aW 226; refine JL_o (by exact aC en226 rfl (wF _ (some ⟨p, o, none⟩) r.2.1.1 n c r.2.1.2.1 r.2.1.2.2)) rfl rfl ?_; rintro _ _ ⟨bt, bl, rfl, hf⟩; have hs := hs.fresh hf; (try simp only [zcc] at hs))) | (apply aR) | ((apply aI); (first | (apply aV; first | exact aU hs rfl rfl aA | exact rA hs (hs.keep hb hbF') rfl aA | exact fX (s := 1) (vs := [.slice (some ⟨p, o, none⟩) n c]) rfl (fun j v hj => hs.keep_cell (cK hb (by simpa using hj)) hbF') rfl aA) | (apply aT; exact aP rfl rfl aA)); first | (exact rfl; exact rfl) | exact rfl) | (apply bB) | (apply aG) | (apply bC) | (apply aL (t := 2); refine JL_o (by apply cD; exact bG hs rfl) rfl rfl ?_; rintro _ _ ⟨b2, rfl, hb2, hs, hE⟩))
  have hbt := hs.blk (b := bt)
  have hbl := hs.blk (b := bl)
  have hlt1 := hs.lt (b := bt)
  have hlt2 := hs.lt (b := bl)
  have hs0 : St w (Star [dH (some ⟨p, o, none⟩) n c rs]).foot _ ([dH (some ⟨p, o, none⟩) n c rs, Blk b2 (.cells (cR r).toArray 139 (0, 0))] ++ [Blk bt _, Blk bl _]) := hs.sel [3, 2, 0, 1] (by decide)
  have hbA : ¬ (Star [dH (some ⟨p, o, none⟩) n c rs, Blk b2 (.cells (cR r).toArray 139 (0, 0))]).foot b := by
    rintro ⟨d, hd, hdk⟩
    rcases (hs0.foot d (List.mem_append_left _ hd) b hdk).2 with h | h
    · exact hbF' h
    · have := (Array.getElem?_eq_some_iff.1 hb).1
      omega
  refine J_rangeG (ps := [9, 10]) hs0 rfl ⟨243, #[ptr bt, ptr bl], rfl, en243⟩ (sX _ bt bl r.2.1.1 r.2.1.2.1 r.2.1.2.2 x.2.1 (some ⟨p, o, none⟩) n c rs (hmw hs0) hlen hok hn hbt hbl)
    (fun k A => A = [dH (some ⟨p, o, none⟩) n c rs, Blk b2 (.cells (cR r).toArray 139 (0, 0))] ∧ oA es (ofM x.2.1) (n - k) k = some q)
    (fun j A => j = .ret ∧ A = [dH (some ⟨p, o, none⟩) n c (rs.set q r), Blk b2 (.cells (cR r).toArray 139 (0, 0))]) (fun l o i A1 hC => by rw [hC.1]; exact .tail _ (.head _)) ⟨rfl, by unfold tK at hfree; rw [hle] at hfree; exact hfree⟩ ?_ (by decide) ?_ ?_ ?_ ?_
  · rintro k (rfl | rfl | hk)
    · exact ⟨rfl, fun hf => hs0.sepA (.head _) hf (gA _ _), hlt1⟩
    · exact ⟨rfl, fun hf => hs0.sepA (.tail _ (.head _)) hf (gA _ _), hlt2⟩
    · have h1 := Sl.below (d := tInt .u64) (by decide) hm k hk
      refine ⟨rfl, fun ⟨d, hd, hdk⟩ => ?_, Nat.lt_of_lt_of_le h1 hs0.frm.size⟩
      rcases (hs0.foot d (List.mem_append_left _ hd) k hdk).2 with h | h
      · exact hsep k hk (nH h)
      · omega
  · rintro i vals cx ⟨_, _, rfl, _⟩; rfl
  · rintro l D tm k w1 A1 cx vals hD hDl hk ⟨rfl, hG⟩ ⟨r2, hrq, rfl, rfl⟩ hh hold
    have hs : St _ _ _ [_, _, _] := hh.st
    have hsz := hs0.frm.size
    have hll := hs.lt (b := l)
    rw [hlen] at hrq
    obtain ⟨s, hsd⟩ : ∃ s, s = dX (ofM x.2.1) n k := ⟨_, rfl⟩
    rw [hlen, ← hsd]
    rw [← hsd] at hrq
    have hsl' : s < n := by rw [← hlen]; exact (List.getElem?_eq_some_iff.1 hrq).1
    have hx : es[s]? = some es[s] := List.getElem?_eq_getElem (by omega)
    obtain ⟨y, hyd⟩ : ∃ y, y = es[s] := ⟨_, rfl⟩
    rw [← hyd] at hx
    have e1 := hst s r2 y hrq hx
    have hfs := yC (es := es) (h := ofM x.2.1) (k := k) (by omega) (by rw [hle]; exact hsd) hx
    rw [hle] at hfs
    rw [hfs] at hG
    have hw1b : w1.heap[b]? = some (.cells #[.slice (some ⟨p, o, none⟩) n c] 55 (0, 0)) := by
      rw [hold b (Nat.lt_of_lt_of_le (Array.getElem?_eq_some_iff.1 hb).1 hs0.frm.size) hbA]
      exact hs0.keep hb hbF'
    have hbl' : ∀ ob : Obj, ¬ (Star [Blk l ob, dH (some ⟨p, o, none⟩) n c rs, Blk b2 (.cells (cR r).toArray 139 (0, 0))]).foot b := by
      rintro ob ⟨d, hd, hdk⟩
      rcases List.mem_cons.1 hd with rfl | hd
      · have hdk : b = l := yW hdk
        have := (Array.getElem?_eq_some_iff.1 hb).1
        omega
      · exact hbA ⟨d, hd, hdk⟩
    by_cases c0 : r2.1 = 0
    · rw [if_pos (by omega)] at hG
      have hqs : s = q := Option.some.inj hG
      subst hqs
      have hts := tab_set (a := some ⟨p, o, none⟩) (n := n) (c := c) (rs := rs) (q := s) r (by omega)
      repeat' (first | ((refine eQ hs (fun w2 hs => ?_))) | ((apply bH; refine JL_u (by apply bA; exact dJ (b := p) (o := o) (off := s * 3) (n := n) (c := c) (vs := cR r) hs rfl rfl rfl rfl (fun u hu => by simp only [List.mem_cons, List.not_mem_nil, or_false] at hu; rcases hu with rfl | rfl | rfl <;> rfl) (by show s * 3 + 3 ≤ n * 3; omega)) rfl ?_; rintro _ _ ⟨hs, hF⟩; rw [hts] at hs)) | (apply aR) | ((apply aI); (first | (apply aV; first | exact aU hs rfl rfl aA | exact aJ hs rfl aA | exact bT (hs.keep_cell (cK (off := 0) hw1b rfl) (hbl' _)) rfl aA) | (apply aQ; exact aH rfl aA) | (apply aF; exact aB rfl aA) | (apply aT; exact aP rfl rfl aA) | (apply aK; exact aM rfl rfl rfl aA) | (apply aO; exact aN rfl rfl (by omega) (by omega) aA)); first | (exact rfl; exact rfl) | exact rfl) | (apply bB) | (apply aG) | (apply bC) | (apply aL (t := 4); refine JL_o (by apply bE; exact aX hs) rfl rfl ?_; rintro _ _ ⟨b4, rfl, hb4, hs, hE⟩) | (apply bH; refine JL_u (by apply bA; exact aZ hs rfl rfl rfl) rfl ?_; rintro _ _ ⟨hs, hF⟩) | (apply aS; refine bF rfl ob ?_))
      have hs : St _ _ _ [_, _, _] := hs.sel [1, 2, 3] (by decide)
      refine pM hs (fun w3 hs => .inr ⟨rfl, .ret, _, ⟨rfl, rfl⟩, St.turned (M := []) hs⟩)
    · rw [if_neg (by omega)] at hG
      repeat' (first | ((refine eQ hs (fun w2 hs => ?_))) | (apply aR) | ((apply aI); (first | (apply aF; exact aB rfl aA) | (apply aT; exact aP rfl rfl aA) | (apply aV; exact aU hs rfl rfl aA) | (apply aK; exact aM rfl rfl rfl aA)); first | (exact rfl; exact rfl) | exact rfl) | (apply bB) | (apply aG) | (apply bC) | (apply bN) | (apply bJ) | (apply aL (t := 4); refine JL_o (by apply bE; exact aX hs) rfl rfl ?_; rintro _ _ ⟨b4, rfl, hb4, hs, hE⟩) | (apply bH; refine JL_u (by apply bA; exact aZ hs rfl rfl rfl) rfl ?_; rintro _ _ ⟨hs, hF⟩) | (apply aS; refine bK rfl ob ?_))
      have hs : St _ _ _ [_, _, _] := hs.sel [1, 2, 3] (by decide)
      refine jN hs (fun w3 hs => .inl ⟨rfl, _, ⟨rfl, hG⟩, St.turned (M := []) hs⟩)
  · rintro w2 D A2 ⟨rfl, hG⟩ hs
    rw [Nat.sub_self] at hG
    cases hG
  · rintro w2 D A2 j ⟨rfl, rfl⟩ hs
    have hs : St w (Star [dH (some ⟨p, o, none⟩) n c rs]).foot _ [_, _, _, _, _] := hs
    refine oN (lK hs (fun w3 hs => oL Tryz.func232 rfl .nil (St.turned (M := [_, _, _]) hs)))
end Go.Eng
end
section
namespace Go.Eng
open Go.Proofs
set_option linter.unusedSimpArgs false
set_option linter.unusedVariables false
abbrev OfZ (rs0 : List REnt) (es0 : List Ent) (zs : List ZE) : Prop := ∀ p ∈ zs, p ∈ rs0.zip es0 ∨ p = (r0, e0)
theorem ofZ_ok {rs0 : List REnt} {es0 : List Ent} {zs : List ZE} (h : OfZ rs0 es0 zs) (hok : ∀ r ∈ rs0, okE r) : ∀ r ∈ zs.map Prod.fst, okE r := fun r hr => by
  obtain ⟨p, hp, rfl⟩ := List.mem_map.1 hr
  rcases h p hp with h | rfl
  · exact hok _ (List.of_mem_zip h).1
  · exact ⟨by unfold inK; decide, trivial, by unfold inK; decide⟩
theorem ofZ_st {R : Nat → Prop} {w : World} {rs0 : List REnt} {es0 : List Ent} {zs : List ZE} (h : OfZ rs0 es0 zs) (hm : MeanV mEnt R w rs0 es0) : ∀ (i : Nat) (u : REnt) (v : Ent), (zs.map Prod.fst)[i]? = some u → (zs.map Prod.snd)[i]? = some v → u.1 = v.1 := by
  intro i u v hu hv
  rw [List.getElem?_map] at hu hv
  obtain ⟨p, hp, rfl⟩ := Option.map_eq_some_iff.1 hu
  rw [hp] at hv
  cases hv
  rcases h p (List.mem_of_getElem? hp) with h | rfl
  · exact (hm.zip p h).1
  · rfl
theorem qR {es : List Ent} (h : dY es) {k : Nat} {x : Ent} (hx : es[k]? = some x) : ∀ y ∈ es.take k, y.2.1 ≠ x.2.1 := by
  intro y hy
  obtain ⟨i, hi⟩ := List.mem_iff_getElem?.1 hy
  rw [List.getElem?_take] at hi
  split at hi
  · rename_i hik
    obtain ⟨hk1, hk2⟩ := List.getElem?_eq_some_iff.1 hx
    obtain ⟨hi1, hi2⟩ := List.getElem?_eq_some_iff.1 hi
    unfold dY at h
    rw [List.pairwise_iff_getElem] at h
    have := h i k hi1 hk1 hik
    rwa [hi2, hk2] at this
  · cases hi
theorem wB {b o k : Nat} (h : dN (some ⟨b, o, none⟩) k) : k = b := by simpa [dN, eq_comm] using h
attribute [local irreducible] Hold J JL JD JX JXat OpR OpG Ret RetV Is Blk Row
set_option maxRecDepth 100000
set_option maxHeartbeats 1000000
theorem laid_r (w : World) (a0 : Option Addr) (m0 c0 : Nat) (rs0 : List REnt) (es0 : List Ent) (many : Nat) (hr : Sl fL All w a0 m0 c0 rs0) (hm : MeanV mEnt All w rs0 es0) (h1 : ∀ x ∈ es0, x.1 = 1) (hd : dY es0) (hlt : m0 < many) (hn : many ≤ 1048576) :
    Ret Tryz.prog 188 #[.slice a0 m0 c0, .int .i64 many] w fun v w' => ∃ (zs : List ZE) (a : Option Addr), Lay many es0 (zs.map Prod.snd) ∧ OfZ rs0 es0 zs ∧ v = .agg #[.slice a many many] ∧ Fresh w w' [dH a many many (zs.map Prod.fst)] := by
  refine cG (l := [_, _]) Tryz.func188 rfl Tryz.ntmps188 (by simp) ?_
  have hs := St.init w
  have hl := hr.len
  have hle : es0.length = m0 := by rw [← hm.1]; exact hl
  obtain ⟨_, _, hokr⟩ := hr.srcF
  repeat' (first | ((apply aL (t := 10); refine JL_o (by apply eZ; exact iX (n := many) hs rfl rfl (by omega) (by omega)) rfl rfl ?_; rintro _ _ ⟨b10, rfl, hb10, hs, hE⟩; have hs := hs.toRow 0 many many 3 (xs := encL cR (newR many)) (Nat.le_refl _) (by unfold maxLen; omega) (by simp [madeCells]) (by rw [← zc_eq many, List.drop_zero, List.take_of_length_le (by simp [madeCells])]))) | (apply aR) | ((apply aI); (first | (apply aQ; exact aH rfl aA) | (apply aF; exact aB rfl aA) | (apply bL; exact bY rfl aA) | (apply eR; exact gQ rfl aA) | (apply cY; exact cL rfl (by (simp only [bld, cQ, bQ, Value.cells, List.take_succ_cons, List.take_zero, List.drop_succ_cons, List.drop_zero, List.cons_append, List.nil_append, List.length_cons, List.length_nil, List.getElem?_cons_zero, List.getElem?_cons_succ, Option.map_some, List.append_nil, Nat.reduceAdd, Nat.reduceMul, Nat.zero_add, Nat.reduceLeDiff, and_self, if_true, List.toList_toArray, Nat.le_refl, Nat.zero_mul, Nat.one_mul]; first | done | rfl)) aA)); first | (exact rfl; exact rfl) | exact rfl) | (apply bB) | (apply aG) | (apply bC) | (apply aL (t := 4); refine JL_o (by apply bE; exact aX hs) rfl rfl ?_; rintro _ _ ⟨b4, rfl, hb4, hs, hE⟩) | (apply aL (t := 5); refine JL_o (by apply bE; exact aX hs) rfl rfl ?_; rintro _ _ ⟨b5, rfl, hb5, hs, hE⟩) | (apply bH; refine JL_u (by apply bA; exact aZ hs rfl rfl rfl) rfl ?_; rintro _ _ ⟨hs, hF⟩))
  have hs0 : St w NoF _ [_, _, _] := hs.sel [1, 0, 2] (by decide)
  have hgb : w.heap.size ≤ b10 := ((hs0.foot _ (.head _) b10 (uB rfl)).2).resolve_left id
  obtain ⟨ta, hta⟩ : ∃ ta : Option Addr, ta = some ⟨b10, 0, none⟩ := ⟨_, rfl⟩
  have hgt : ∀ k, dN ta k → w.heap.size ≤ k := fun k hk => by rw [hta] at hk; rw [wB hk]; exact hgb
  rw [← hta] at hs0
  have hz0 : (List.replicate many (r0, e0)).map Prod.fst = newR many := by rw [List.map_replicate]
  have hz1 : (List.replicate many (r0, e0)).map Prod.snd = newE many := by rw [List.map_replicate]
  refine dG (α := Nat × List ZE) [(4, _), (5, _), (6, _), (13, _), (14, _)] (fun g => [(15, .int .i64 g.1)])
    (fun g w' => St w NoF w' [dH ta many many (g.2.map Prod.fst), Blk b5 (.cells #[.slice ta many many] 55 (0, 0)), Blk b4 (.cells #[.slice none 0 0] 55 (0, 0))] ∧ g.1 ≤ m0 ∧ OfZ rs0 es0 g.2 ∧ Lay many (es0.take g.1) (g.2.map Prod.snd))
    (fun g => m0 - g.1) (0, List.replicate many (r0, e0)) ⟨by dsimp only; rw [hz0]; exact hs0, by dsimp only; omega, fun p hp => .inr (List.eq_of_mem_replicate hp), by dsimp only; rw [hz1]; exact Lay.start many⟩ zss ?_
  rintro ⟨k, zs⟩ w2 ⟨hs1, hk, hz, hL⟩ ih
  dsimp only at hs1 hk hz hL ih ⊢
  by_cases hkm : k < m0
  · obtain ⟨p, o, rfl⟩ := hr.sl.addr (by omega)
    have hs : St w NoF w2 [_, _, _] := hs1
    have hx : es0[k]? = some (es0[k]'(by omega)) := List.getElem?_eq_getElem (by omega)
    obtain ⟨x, hxd⟩ : ∃ x, x = es0[k]'(by omega) := ⟨_, rfl⟩
    rw [← hxd] at hx
    obtain ⟨r, hrx, hrel⟩ := hm.get hx
    have mx : Sl (tInt .u64) All w r.2.1.1 r.2.1.2.1 r.2.1.2.2 x.2.1 := hrel.2.1
    have htk : es0.take (k + 1) = es0.take k ++ [x] := by rw [List.take_add_one, hx]; rfl
    obtain ⟨q, hq, _, hL2⟩ := hL.step (e := x) (h1 x (List.mem_of_getElem? hx)) (qR hd hx) (by rw [List.length_take]; omega)
    rw [← htk] at hL2
    have hlz : (zs.map Prod.snd).length = many := hL.len
    have hlz1 : (zs.map Prod.fst).length = many := by rw [List.length_map] at hlz ⊢; exact hlz
    have e1 : (zs.map Prod.fst).set q r = (zs.set q (r, x)).map Prod.fst := by rw [List.map_set]
    have e2 : (zs.map Prod.snd).set q x = (zs.set q (r, x)).map Prod.snd := by rw [List.map_set]
    rw [e2] at hL2
    repeat' (first | ((apply aL (t := 21); have hs2 : St w NoF _ ([dH ta many many (zs.map Prod.fst)] ++ [Blk b8 _, Blk b5 (.cells #[.slice ta many many] 55 (0, 0)), Blk b4 _]) := hs.sel [1, 0, 2, 3] (by decide); refine JL_o (cH rfl rfl (Ret.value (cap := #[ptr b5]) en232 (laid1_r _ b5 ta many many (zs.map Prod.fst) (zs.map Prod.snd) r x q (hs.blk (b := b5)) (St.held (A := [_]) hs2) (fun hf => hs2.sepA (A := [_]) (.tail _ (.head _)) (tab_foot hf) (gA _ _)) hlz1 hlz (ofZ_ok hz hokr) (ofZ_st hz hm) (mx.st hs2).foc (fun k hk hf => by have h1 := Sl.below (d := tInt .u64) (by decide) mx k hk; have h2 := hgt k hf; omega) hn hq))) rfl rfl ?_; rintro _ _ ht; have hs : St w NoF _ [_, _, _, _] := St.take (A := [_]) (A' := [_]) hs2 ht; clear ht hs2)) | (apply aR) | ((apply aI); (first | (apply aV; first | exact aU hs rfl rfl aA | exact aJ hs rfl aA | exact bI (hr.st hs) hrx rfl rfl aA) | (apply aQ; exact aH rfl aA) | (apply cJ; exact bR rfl rfl (by omega) (by first | (simp only [Int.reduceAdd]; exact rfl) | exact rfl) aA) | (apply aK; exact aM rfl rfl rfl aA) | (apply aO; exact aN rfl rfl (by omega) (by omega) aA)); first | (exact rfl; exact rfl) | exact rfl) | (apply bB) | (apply aG) | (apply bC) | (apply bN) | (apply bJ) | (apply aL (t := 8); refine JL_o (by apply bE; exact aX hs) rfl rfl ?_; rintro _ _ ⟨b8, rfl, hb8, hs, hE⟩) | (apply bH; refine JL_u (by apply bA; exact aZ hs rfl rfl rfl) rfl ?_; rintro _ _ ⟨hs, hF⟩) | (apply aS; refine bF rfl ob ?_))
    rw [e1] at hs
    refine ih (k + 1, zs.set q (r, x)) _ _ ⟨hs.sel [0, 2, 3] (by decide), by dsimp only; omega, ?_, hL2⟩ (by dsimp only; omega) zss
    intro p hp
    rcases List.mem_or_eq_of_mem_set hp with hp | rfl
    · exact hz p hp
    · exact .inl (zip_get hrx hx)
  · have hs : St w NoF w2 [_, _, _] := hs1
    rw [List.take_of_length_le (by omega)] at hL
    repeat' (first | (apply aR) | ((apply aI); (first | (apply aV; exact aJ hs rfl aA) | (apply aK; exact aM rfl rfl rfl aA)); first | (exact rfl; exact rfl) | exact rfl) | (apply bB) | (apply aG) | (apply cI; refine cZ rfl ?_) | (apply bH; refine JL_u (by apply bA; exact aZ hs rfl rfl rfl) rfl ?_; rintro _ _ ⟨hs, hF⟩) | (apply aS; refine bK rfl ob ?_))
    refine aY Tryz.func188 rfl (.agg' hs rfl rfl .nil) ⟨zs, ta, hL, hz, rfl, hs.out (.cons_cons _ (List.nil_sublist _))⟩
end Go.Eng
end
section
namespace Go.Eng
open Go.Proofs
set_option linter.unusedSimpArgs false
set_option linter.unusedVariables false
theorem St.ownZ {w0 w : World} {F : Nat → Prop} {L : List HP} {rs : List REnt} {es : List Ent} {zs : List ZE} (h : St w0 F w (Own rs es :: L)) (hz : OfZ rs es zs) : St w0 F w (Own (zs.map Prod.fst) (zs.map Prod.snd) :: L) := by
  refine h.conv (fun k hk => ?_) (fun hh => ?_)
  · obtain ⟨r, hr, hk⟩ := hk
    obtain ⟨p, hp, rfl⟩ := List.mem_map.1 hr
    rcases hz p hp with h | rfl
    · exact ⟨p.1, (List.of_mem_zip h).1, hk⟩
    · simp [dN] at hk
  · have hh : OwnV w rs es := hh
    refine ⟨by simp, fun i r x hr hx => ?_⟩
    rw [List.getElem?_map] at hr hx
    obtain ⟨p, hp, rfl⟩ := Option.map_eq_some_iff.1 hr
    rw [hp] at hx
    cases hx
    rcases hz p (List.mem_of_getElem? hp) with h | rfl
    · obtain ⟨j, hj⟩ := List.mem_iff_getElem?.1 h
      rw [List.getElem?_zip_eq_some] at hj
      exact hh.2 j _ _ hj.1 hj.2
    · exact ⟨⟨rfl, rfl, rfl, by unfold inK; decide, by unfold inK; decide⟩, kW w _ _, fun v hv => by cases hv⟩
theorem St.ownV {w0 w : World} {F : Nat → Prop} {L : List HP} {rs : List REnt} {es : List Ent} (h : St w0 F w L) (hm : Own rs es ∈ L) : OwnV w rs es := h.all _ hm
def putE (es : List Ent) (t : List Int) (v : Int) : Int := if dD es then (if dR t then (if v < 0 then 2 else if 0 ≤ fG es t then 5 else if (allM es).length = 4000 then 6 else 0) else 130) else 170
theorem vI {es : List Ent} {t : List Int} (hc : dD es = true) (h : ¬ 0 ≤ fG es t) : ∀ y ∈ es.filter dW, y.2.1 ≠ t := by
  intro y hy e
  obtain ⟨h1, h2⟩ := List.mem_filter.1 hy
  obtain ⟨i, hi⟩ := List.mem_iff_getElem?.1 h1
  have := ((iB hc hi).1 (of_decide_eq_true h2)).2.2
  rw [e] at this
  omega
theorem qS {l : List Ent} {e : Ent} (h : dY l) (he : ∀ y ∈ l, y.2.1 ≠ e.2.1) : dY (l ++ [e]) := by
  unfold dY at *
  rw [List.pairwise_append]
  exact ⟨h, List.pairwise_singleton _ _, fun a ha b hb => by rw [List.mem_singleton.1 hb]; exact he a ha⟩
theorem qX {es : List Ent} (hc : dD es = true) : dY (allM es) := ((fH es).symm.pairwise_iff (fun h => Ne.symm h)).1 (eB hc)
theorem allM_mem {es : List Ent} {x : Ent} (h : x ∈ allM es) : x ∈ es ∧ x.1 = 1 := by
  have := (fH es).mem_iff.1 h
  obtain ⟨h1, h2⟩ := List.mem_filter.1 this
  exact ⟨h1, of_decide_eq_true h2⟩
theorem yZ {es : List Ent} (hc : dD es = true) : (allM es).length ≤ 4000 := by
  rw [(fH es).length_eq]
  unfold dD at hc
  rw [Bool.and_eq_true] at hc
  have := hc.1
  unfold oU at this
  simp only [Bool.and_eq_true, decide_eq_true_eq] at this
  obtain ⟨_, _, _, _, h⟩ := this
  unfold pX cnt at h
  have e : es.filter dW = es.filter (fun x => decide (x.1 = 1)) := rfl
  rw [e]; omega
attribute [local irreducible] Hold J JL JD JX JXat OpR OpG Ret RetV Is Blk Row
set_option maxRecDepth 100000
set_option maxHeartbeats 1000000
theorem put_r (w : World) (a : Option Addr) (n c : Nat) (es : List Ent) (a2 : Option Addr) (n2 c2 : Nat) (t : List Int) (v : Int) (h : Sl dEnt All w a n c es) (hn : n ≤ 1048576) (h2 : Sl (tInt .u64) All w a2 n2 c2 t) (hv : inK .i64 v) :
    Ret Tryz.prog 132 #[.agg #[.slice a n c], .slice a2 n2 c2, .int .i64 v] w fun u w' => (putE es t v ≠ 0 ∧ u = .tuple #[.agg #[.slice none 0 0], .int .i64 (putE es t v)] ∧ Ext w w') ∨
      (putE es t v = 0 ∧ ∃ (es' : List Ent) (rs' : List REnt) (a' : Option Addr), (dD es' = true ∧ (es'.filter dW).Perm (allM es ++ [(1, t, v)]) ∧ es'.length ≤ 1048576) ∧ u = .tuple #[.agg #[.slice a' es'.length es'.length], .int .i64 0] ∧ Fresh w w' [dH a' es'.length es'.length rs', Own rs' es']) := by
  refine cG (l := [_, _, _]) Tryz.func132 rfl Tryz.ntmps132 (by simp) ?_
  have hs := St.init w
  unfold putE
  have hl2 := h2.len
  by_cases hc : dD es = true
  · rw [if_pos hc]
    have hlen := fun x hx => Nat.le_trans (lX hc (x := x) hx) (by decide : 12 ≤ 4000000000)
    have hal := yZ hc
    by_cases ht : dR t = true
    · rw [if_pos ht]
      by_cases hv0 : v < 0
      · rw [if_pos hv0]
        repeat' (first | ((apply aW 118; refine JL_o (by exact aC lF rfl (eV _ a n c es (h.st hs) hn)) rfl rfl ?_; rintro _ _ ⟨rfl, hE⟩; rw [if_pos hc]; have hs := hs.ext hE; (try simp only [zcc] at hs))) | ((apply aW 187; refine JL_o (by exact aC vR rfl (oW _ a n c es (h.st hs) hn hlen)) rfl rfl ?_; rintro _ _ ⟨es1, rs1, hp, hpw, a1, c1, rfl, hf⟩; have hs := hs.fresh hf; (try simp only [zcc] at hs))) | ((apply aW 59; refine JL_o (by exact aC en59 rfl (dL _ a2 n2 c2 t (h2.st hs))) rfl rfl ?_; rintro _ _ ⟨rfl, hE⟩; rw [ht]; have hs := hs.ext hE; (try simp only [zcc] at hs))) | (apply aR) | ((apply aI); (first | (apply aQ; exact aH rfl aA) | (apply aF; exact aB rfl aA) | (apply aV; exact aJ hs rfl aA) | (apply aK; exact aM rfl rfl rfl aA) | (apply cY; exact cL rfl (by (simp only [bld, cQ, bQ, Value.cells, List.take_succ_cons, List.take_zero, List.drop_succ_cons, List.drop_zero, List.cons_append, List.nil_append, List.length_cons, List.length_nil, List.getElem?_cons_zero, List.getElem?_cons_succ, Option.map_some, List.append_nil, Nat.reduceAdd, Nat.reduceMul, Nat.zero_add, Nat.reduceLeDiff, and_self, if_true, List.toList_toArray, Nat.le_refl, Nat.zero_mul, Nat.one_mul]; first | done | rfl)) aA)); first | (exact rfl; exact rfl) | exact rfl) | (apply bB) | (apply aG) | (apply bC) | (apply bJ) | (apply aL (t := 3); refine JL_o (by apply cD; exact bG hs rfl) rfl rfl ?_; rintro _ _ ⟨b3, rfl, hb3, hs, hE⟩) | (apply aL (t := 6); refine JL_o (by apply bE; exact aX hs) rfl rfl ?_; rintro _ _ ⟨b6, rfl, hb6, hs, hE⟩) | (apply bH; refine JL_u (by apply bA; exact aZ hs rfl rfl rfl) rfl ?_; rintro _ _ ⟨hs, hF⟩) | (apply aS; first | refine bF rfl ob ?_ | refine bK rfl ob ?_ | refine bV rfl gb ?_))
        refine aY Tryz.func132 rfl (.agg' hs rfl rfl (.tmp rfl .nil)) (.inl ⟨by decide, rfl, hs.frm.ext⟩)
      · rw [if_neg hv0]
        by_cases hpl : 0 ≤ fG es t
        · rw [if_pos hpl]
          repeat' (first | ((apply aW 118; refine JL_o (by exact aC lF rfl (eV _ a n c es (h.st hs) hn)) rfl rfl ?_; rintro _ _ ⟨rfl, hE⟩; rw [if_pos hc]; have hs := hs.ext hE; (try simp only [zcc] at hs))) | ((apply aW 187; refine JL_o (by exact aC vR rfl (oW _ a n c es (h.st hs) hn hlen)) rfl rfl ?_; rintro _ _ ⟨es1, rs1, hp, hpw, a1, c1, rfl, hf⟩; have hs := hs.fresh hf; (try simp only [zcc] at hs))) | ((apply aW 59; refine JL_o (by exact aC en59 rfl (dL _ a2 n2 c2 t (h2.st hs))) rfl rfl ?_; rintro _ _ ⟨rfl, hE⟩; rw [ht]; have hs := hs.ext hE; (try simp only [zcc] at hs))) | ((apply aW 176; refine JL_o (by exact aC sD rfl (kI _ a n c es a2 n2 c2 t (h.st hs) hn (h2.st hs))) rfl rfl ?_; rintro _ _ ⟨rfl, hE⟩; have hs := hs.ext hE; (try simp only [zcc] at hs))) | (apply aR) | ((apply aI); (first | (apply aQ; exact aH rfl aA) | (apply aF; exact aB rfl aA) | (apply aV; exact aJ hs rfl aA) | (apply aK; exact aM rfl rfl rfl aA) | (apply cY; exact cL rfl (by (simp only [bld, cQ, bQ, Value.cells, List.take_succ_cons, List.take_zero, List.drop_succ_cons, List.drop_zero, List.cons_append, List.nil_append, List.length_cons, List.length_nil, List.getElem?_cons_zero, List.getElem?_cons_succ, Option.map_some, List.append_nil, Nat.reduceAdd, Nat.reduceMul, Nat.zero_add, Nat.reduceLeDiff, and_self, if_true, List.toList_toArray, Nat.le_refl, Nat.zero_mul, Nat.one_mul]; first | done | rfl)) aA)); first | (exact rfl; exact rfl) | exact rfl) | (apply bB) | (apply aG) | (apply bC) | (apply bJ) | (apply aL (t := 3); refine JL_o (by apply cD; exact bG hs rfl) rfl rfl ?_; rintro _ _ ⟨b3, rfl, hb3, hs, hE⟩) | (apply aL (t := 6); refine JL_o (by apply bE; exact aX hs) rfl rfl ?_; rintro _ _ ⟨b6, rfl, hb6, hs, hE⟩) | (apply bH; refine JL_u (by apply bA; exact aZ hs rfl rfl rfl) rfl ?_; rintro _ _ ⟨hs, hF⟩) | (apply aS; first | refine bF rfl ob ?_ | refine bK rfl ob ?_ | refine bV rfl gb ?_))
          refine aY Tryz.func132 rfl (.agg' hs rfl rfl (.tmp rfl .nil)) (.inl ⟨by decide, rfl, hs.frm.ext⟩)
        · rw [if_neg hpl]
          by_cases h4 : (allM es).length = 4000
          · rw [if_pos h4]
            repeat' (first | ((apply aW 118; refine JL_o (by exact aC lF rfl (eV _ a n c es (h.st hs) hn)) rfl rfl ?_; rintro _ _ ⟨rfl, hE⟩; rw [if_pos hc]; have hs := hs.ext hE; (try simp only [zcc] at hs))) | ((apply aW 187; refine JL_o (by exact aC vR rfl (oW _ a n c es (h.st hs) hn hlen)) rfl rfl ?_; rintro _ _ ⟨es1, rs1, hp, hpw, a1, c1, rfl, hf⟩; have hs := hs.fresh hf; have he1 : es1.length = 4000 := by rw [kQ (eB hc) hp hpw]; exact h4; (try simp only [zcc] at hs))) | ((apply aW 59; refine JL_o (by exact aC en59 rfl (dL _ a2 n2 c2 t (h2.st hs))) rfl rfl ?_; rintro _ _ ⟨rfl, hE⟩; rw [ht]; have hs := hs.ext hE; (try simp only [zcc] at hs))) | ((apply aW 176; refine JL_o (by exact aC sD rfl (kI _ a n c es a2 n2 c2 t (h.st hs) hn (h2.st hs))) rfl rfl ?_; rintro _ _ ⟨rfl, hE⟩; have hs := hs.ext hE; (try simp only [zcc] at hs))) | (apply aR) | ((apply aI); (first | (apply aQ; exact aH rfl aA) | (apply aF; exact aB rfl aA) | (apply aV; exact aJ hs rfl aA) | (apply aK; exact aM rfl rfl rfl aA) | (apply bL; exact bY rfl aA) | (apply cY; exact cL rfl (by (simp only [bld, cQ, bQ, Value.cells, List.take_succ_cons, List.take_zero, List.drop_succ_cons, List.drop_zero, List.cons_append, List.nil_append, List.length_cons, List.length_nil, List.getElem?_cons_zero, List.getElem?_cons_succ, Option.map_some, List.append_nil, Nat.reduceAdd, Nat.reduceMul, Nat.zero_add, Nat.reduceLeDiff, and_self, if_true, List.toList_toArray, Nat.le_refl, Nat.zero_mul, Nat.one_mul]; first | done | rfl)) aA)); first | (exact rfl; exact rfl) | exact rfl) | (apply bB) | (apply aG) | (apply bC) | (apply bJ) | (apply aL (t := 3); refine JL_o (by apply cD; exact bG hs rfl) rfl rfl ?_; rintro _ _ ⟨b3, rfl, hb3, hs, hE⟩) | (apply aL (t := 6); refine JL_o (by apply bE; exact aX hs) rfl rfl ?_; rintro _ _ ⟨b6, rfl, hb6, hs, hE⟩) | (apply bH; refine JL_u (by apply bA; exact aZ hs rfl rfl rfl) rfl ?_; rintro _ _ ⟨hs, hF⟩) | (apply aS; first | refine bF rfl ob ?_ | refine bK rfl ob ?_ | refine bV rfl gb ?_))
            refine aY Tryz.func132 rfl (.agg' hs rfl rfl (.tmp rfl .nil)) (.inl ⟨by decide, rfl, hs.frm.ext⟩)
          · rw [if_neg h4]
            obtain ⟨al, hald⟩ : ∃ al, al = allM es := ⟨_, rfl⟩
            rw [← hald] at hal h4
            have ht64 : ∀ u ∈ t, inK .u64 u := (h2.srcF).2.2
            have h12 := (typeB_true.1 ht).1
            repeat' (first | ((apply aW 118; refine JL_o (by exact aC lF rfl (eV _ a n c es (h.st hs) hn)) rfl rfl ?_; rintro _ _ ⟨rfl, hE⟩; rw [if_pos hc]; have hs := hs.ext hE; (try simp only [zcc] at hs))) | ((apply aW 187; refine JL_o (by exact aC vR rfl (oW _ a n c es (h.st hs) hn hlen)) rfl rfl ?_; rintro _ _ ⟨es1, rs1, hp, hpw, a1, c1, rfl, hf⟩; have hs := hs.fresh hf; have he1 := kQ (eB hc) hp hpw; rw [← hald] at he1; subst he1; (try simp only [zcc] at hs))) | ((apply aW 59; refine JL_o (by exact aC en59 rfl (dL _ a2 n2 c2 t (h2.st hs))) rfl rfl ?_; rintro _ _ ⟨rfl, hE⟩; rw [ht]; have hs := hs.ext hE; (try simp only [zcc] at hs))) | ((apply aW 176; refine JL_o (by exact aC sD rfl (kI _ a n c es a2 n2 c2 t (h.st hs) hn (h2.st hs))) rfl rfl ?_; rintro _ _ ⟨rfl, hE⟩; have hs := hs.ext hE; (try simp only [zcc] at hs))) | ((apply aW 24; refine JL_o (by exact aC en24 rfl (qW _ a2 n2 c2 t (h2.st hs) (by omega))) rfl rfl ?_; rintro _ _ ⟨a3, c3, rfl, hf3⟩; have hs := hs.fresh hf3; (try simp only [zcc] at hs))) | ((apply aL (t := 45); refine JL_o (by apply dO; exact fJ (xs := encL cR rs1) (news := cR (1, (a3, n2, c3), v)) hs rfl rfl (src_blk3 (r := (1, (a3, n2, c3), v)) (hs.blk (b := b44))) fF rfl (by omega) (by unfold maxLen; omega)) rfl rfl ?_; rintro _ _ ⟨a4, c4, rfl, hs, hF, hnil⟩)) | (apply aR) | ((apply aI); (first | (apply aQ; exact aH rfl aA) | (apply aF; exact aB rfl aA) | (apply aV; exact aJ hs rfl aA) | (apply aK; exact aM rfl rfl rfl aA) | (apply bL; exact bY rfl aA) | (apply cY; exact cL rfl (by (simp only [bld, cQ, bQ, Value.cells, List.take_succ_cons, List.take_zero, List.drop_succ_cons, List.drop_zero, List.cons_append, List.nil_append, List.length_cons, List.length_nil, List.getElem?_cons_zero, List.getElem?_cons_succ, Option.map_some, List.append_nil, Nat.reduceAdd, Nat.reduceMul, Nat.zero_add, Nat.reduceLeDiff, and_self, if_true, List.toList_toArray, Nat.le_refl, Nat.zero_mul, Nat.one_mul]; first | done | rfl)) aA)); first | (exact rfl; exact rfl) | exact rfl) | (apply bB) | (apply aG) | (apply bC) | (apply bN) | (apply bJ) | (apply aL (t := 3); refine JL_o (by apply cD; exact bG hs rfl) rfl rfl ?_; rintro _ _ ⟨b3, rfl, hb3, hs, hE⟩) | (apply aL (t := 6); refine JL_o (by apply bE; exact aX hs) rfl rfl ?_; rintro _ _ ⟨b6, rfl, hb6, hs, hE⟩) | (apply aL (t := 44); refine JL_o (by apply cV; exact cO hs rfl (by omega) rfl) rfl rfl ?_; rintro _ _ ⟨b44, rfl, hb44, hs, hE⟩) | (apply aS; first | refine bK rfl ob ?_ | refine bV rfl gb ?_))
            have hcc : encL cR rs1 ++ cR (1, (a3, n2, c3), v) = encL cR (rs1 ++ [(1, (a3, n2, c3), v)]) := by rw [gP]; simp [encL]
            rw [show encL cR rs1 ++ cR (1, (a3, n2, c3), v) = encL cR (rs1 ++ [(1, (a3, n2, c3), v)]) from hcc] at hs
            have hs : St w NoF _ [_, _, _, _] := hs.sel [1, 3, 2, 4] (by decide)
            have hs := St.pushOwn hs hl2.symm 1 v (by unfold inK; decide) hv ht64
            obtain ⟨rs2, hrs2⟩ : ∃ rs2, rs2 = rs1 ++ [((1 : Int), (a3, n2, c3), v)] := ⟨_, rfl⟩
            obtain ⟨es2, hes2⟩ : ∃ es2 : List Ent, es2 = es1 ++ [(1, t, v)] := ⟨_, rfl⟩
            have hl3 : es2.length = es1.length + 1 := by rw [hes2]; simp
            rw [← hrs2, ← hes2, ← hl3] at hs
            have hs : St w NoF _ [Own rs2 es2, dH a4 es2.length c4 rs2, Blk b6 (.cells #[.slice none 0 0] 55 (0, 0))] := hs
            have hd2 : dY es2 := by
              rw [hes2]
              have hdd := qX hc
              rw [← hald] at hdd
              refine qS hdd (fun y hy => ?_)
              rw [hald] at hy
              exact vI hc hpl y ((fH es).mem_iff.1 hy)
            have hok2 : ∀ x ∈ es2, x.1 = 1 ∧ dR x.2.1 = true ∧ 0 ≤ x.2.2 := by
              intro x hx
              rw [hes2] at hx
              rcases List.mem_append.1 hx with hx | hx
              · rw [hald] at hx
                obtain ⟨m1, m2⟩ := allM_mem hx
                obtain ⟨q1, q2⟩ := (sM hc m1).1 m2
                exact ⟨m2, q1, q2⟩
              · rw [List.mem_singleton.1 hx]; exact ⟨rfl, ht, by show 0 ≤ v; omega⟩
            refine dG (α := Nat × Nat) [(6, _), (9, _)] (fun g => [(10, .int .i64 g.1)]) (fun g w' => St w NoF w' [Own rs2 es2, dH a4 es2.length c4 rs2, Blk b6 (.cells #[.slice none 0 0] 55 (0, 0))] ∧ g.1 = 8 * 2 ^ g.2 ∧ (g.2 = 0 ∨ g.1 ≤ 4 * es2.length)) (fun g => 4 * es2.length - g.1) (8, 0) ⟨hs, rfl, .inl rfl⟩ (by rw [← hl3]; repeat' (first | exact trivial | exact rfl | apply And.intro)) ?_
            rintro ⟨N, j⟩ w2 ⟨hs1, hN, hlo⟩ ih
            dsimp only at hN hlo ih ⊢
            have hs : St w NoF w2 [_, _, _] := hs1
            have hN8 : 8 ≤ N := by have hp : 0 < 2 ^ j := Nat.pow_pos (by decide); omega
            have hNb : N ≤ 100000 := by
              rcases hlo with h | h
              · subst h; omega
              · omega
            by_cases hlt : 2 * N < 4 * es2.length
            · repeat' (first | (apply aR) | ((apply aI); (first | (apply aQ; exact aH rfl aA) | (apply aF; exact aB rfl aA) | (apply aK; first | exact oJ rfl rfl (by omega) aA | exact aM rfl rfl rfl aA) | (apply bL; exact bY rfl aA)); first | (exact rfl; exact rfl) | exact rfl) | (apply bB) | (apply aG) | (apply bC) | (apply bN) | (apply bJ) | (apply aS; refine bF rfl ob ?_))
              have e : (N : Int) * 2 = ((N * 2 : Nat) : Int) := by omega
              refine ih (N * 2, j + 1) _ _ ⟨hs, by dsimp only; rw [hN, Nat.pow_succ]; omega, .inr (by dsimp only; omega)⟩ (by dsimp only; omega) (by rw [e]; repeat' (first | exact trivial | exact rfl | apply And.intro))
            · have ho := St.ownV hs (.head _)
              repeat' (first | ((apply aW 188; refine JL_o (by exact aC en188 rfl (laid_r _ a4 es2.length c4 rs2 es2 N (rowSl (hs.row a4 es2.length c4) ho.ok) ((St.ownV hs (.head _)).mean.weak (fun _ _ => trivial)) (fun x hx => (hok2 x hx).1) hd2 (by omega) (by omega))) rfl rfl ?_; rintro _ _ ⟨zs, ta, hL, hz, rfl, hf4⟩; have hs := hs.fresh hf4; (try simp only [zcc] at hs))) | (apply aR) | ((apply aI); (first | (apply aQ; exact aH rfl aA) | (apply aF; exact aB rfl aA) | (apply aK; first | exact oJ rfl rfl (by omega) aA | exact aM rfl rfl rfl aA) | (apply bL; exact bY rfl aA)); first | (exact rfl; exact rfl) | exact rfl) | (apply bB) | (apply aG) | (apply cI; refine cZ rfl ?_) | (apply bH; refine JL_u (by apply bA; exact aZ hs rfl rfl rfl) rfl ?_; rintro _ _ ⟨hs, hF⟩) | (apply aS; refine bK rfl ob ?_))
              have hs : St w NoF _ [Own rs2 es2, dH ta N N (zs.map Prod.fst), Blk b6 _, dH a4 es2.length c4 rs2] := hs.sel [1, 0, 3, 2] (by decide)
              have hs := St.ownZ hs hz
              have hs : St w NoF _ [dH ta N N (zs.map Prod.fst), Own (zs.map Prod.fst) (zs.map Prod.snd), Blk b6 _, dH a4 es2.length c4 rs2] := hs.sel [1, 0, 2, 3] (by decide)
              have hlz := hL.len
              have hpw : powB N = true := (powB_iff N).2 ⟨j, hN⟩
              have hck := hL.check hpw (fun x hx => (hok2 x hx).2) (by omega) (by omega)
              have hp2 := hL.perm
              rw [hes2, hald] at hp2
              obtain ⟨es3, hes3⟩ : ∃ es3, es3 = zs.map Prod.snd := ⟨_, rfl⟩
              rw [← hes3] at hs hlz hck hp2
              rw [← hlz] at hs ⊢
              refine aY Tryz.func132 rfl (.agg' hs rfl rfl (.tmp rfl .nil)) (.inr ⟨rfl, es3, zs.map Prod.fst, ta, ⟨hck, hp2, by omega⟩, rfl, hs.out (.cons_cons _ (.cons_cons _ (List.nil_sublist _)))⟩)
    · have ht : dR t = false := by simpa using ht
      rw [if_neg (by rw [ht]; decide)]
      repeat' (first | ((apply aW 118; refine JL_o (by exact aC lF rfl (eV _ a n c es (h.st hs) hn)) rfl rfl ?_; rintro _ _ ⟨rfl, hE⟩; rw [if_pos hc]; have hs := hs.ext hE; (try simp only [zcc] at hs))) | ((apply aW 187; refine JL_o (by exact aC vR rfl (oW _ a n c es (h.st hs) hn hlen)) rfl rfl ?_; rintro _ _ ⟨es1, rs1, hp, hpw, a1, c1, rfl, hf⟩; have hs := hs.fresh hf; (try simp only [zcc] at hs))) | ((apply aW 59; refine JL_o (by exact aC en59 rfl (dL _ a2 n2 c2 t (h2.st hs))) rfl rfl ?_; rintro _ _ ⟨rfl, hE⟩; rw [ht]; have hs := hs.ext hE; (try simp only [zcc] at hs))) | (apply aR) | ((apply aI); (first | (apply aQ; exact aH rfl aA) | (apply aF; exact aB rfl aA) | (apply aV; exact aJ hs rfl aA) | (apply aK; exact aM rfl rfl rfl aA) | (apply cY; exact cL rfl (by (simp only [bld, cQ, bQ, Value.cells, List.take_succ_cons, List.take_zero, List.drop_succ_cons, List.drop_zero, List.cons_append, List.nil_append, List.length_cons, List.length_nil, List.getElem?_cons_zero, List.getElem?_cons_succ, Option.map_some, List.append_nil, Nat.reduceAdd, Nat.reduceMul, Nat.zero_add, Nat.reduceLeDiff, and_self, if_true, List.toList_toArray, Nat.le_refl, Nat.zero_mul, Nat.one_mul]; first | done | rfl)) aA)); first | (exact rfl; exact rfl) | exact rfl) | (apply bB) | (apply aG) | (apply bC) | (apply bJ) | (apply aL (t := 3); refine JL_o (by apply cD; exact bG hs rfl) rfl rfl ?_; rintro _ _ ⟨b3, rfl, hb3, hs, hE⟩) | (apply aL (t := 6); refine JL_o (by apply bE; exact aX hs) rfl rfl ?_; rintro _ _ ⟨b6, rfl, hb6, hs, hE⟩) | (apply bH; refine JL_u (by apply bA; exact aZ hs rfl rfl rfl) rfl ?_; rintro _ _ ⟨hs, hF⟩) | (apply aS; first | refine bK rfl ob ?_ | refine bZ rfl gb ?_))
      refine aY Tryz.func132 rfl (.agg' hs rfl rfl (.tmp rfl .nil)) (.inl ⟨by decide, rfl, hs.frm.ext⟩)
  · rw [if_neg hc]
    repeat' (first | ((apply aW 118; refine JL_o (by exact aC lF rfl (eV _ a n c es (h.st hs) hn)) rfl rfl ?_; rintro _ _ ⟨rfl, hE⟩; rw [if_neg hc]; have hs := hs.ext hE; (try simp only [zcc] at hs))) | (apply aR) | ((apply aI); (first | (apply aQ; exact aH rfl aA) | (apply aF; exact aB rfl aA) | (apply aV; exact aJ hs rfl aA) | (apply aK; exact aM rfl rfl rfl aA) | (apply cY; exact cL rfl (by (simp only [bld, cQ, bQ, Value.cells, List.take_succ_cons, List.take_zero, List.drop_succ_cons, List.drop_zero, List.cons_append, List.nil_append, List.length_cons, List.length_nil, List.getElem?_cons_zero, List.getElem?_cons_succ, Option.map_some, List.append_nil, Nat.reduceAdd, Nat.reduceMul, Nat.zero_add, Nat.reduceLeDiff, and_self, if_true, List.toList_toArray, Nat.le_refl, Nat.zero_mul, Nat.one_mul]; first | done | rfl)) aA)); first | (exact rfl; exact rfl) | exact rfl) | (apply bB) | (apply aG) | (apply aL (t := 3); refine JL_o (by apply cD; exact bG hs rfl) rfl rfl ?_; rintro _ _ ⟨b3, rfl, hb3, hs, hE⟩) | (apply aL (t := 6); refine JL_o (by apply bE; exact aX hs) rfl rfl ?_; rintro _ _ ⟨b6, rfl, hb6, hs, hE⟩) | (apply bH; refine JL_u (by apply bA; exact aZ hs rfl rfl rfl) rfl ?_; rintro _ _ ⟨hs, hF⟩) | (apply aS; refine bF rfl ob ?_))
    refine aY Tryz.func132 rfl (.agg' hs rfl rfl (.tmp rfl .nil)) (.inl ⟨by decide, rfl, hs.frm.ext⟩)
end Go.Eng
end
section
namespace Go.Eng
open Go.Proofs Go.RowKit
set_option linter.unusedSimpArgs false
set_option linter.unusedVariables false
theorem Sl.cut {α : Type} {d : Ty α} {R : Nat → Prop} {w : World} {a : Option Addr} {n c : Nat} {xs : List α} (h : Sl d R w a n c xs) (m : Nat) (hm : m ≤ n) : Sl d R w a m c (xs.take m) := by
  obtain ⟨h1, h2, h3, s⟩ := h
  have hl := s.len
  refine ⟨by omega, h2, h3, ⟨by rw [List.length_take]; omega, fun ha => by have := s.nil ha; omega, fun hp => s.plain (by omega), fun b o ha hp => s.reg b o ha (by omega), fun i x hx => ?_⟩⟩
  rw [List.getElem?_take] at hx
  split at hx
  · exact s.el i x hx
  · cases hx
attribute [local irreducible] Hold J JL JD JX JXat OpR OpG Ret RetV Is Blk Row
set_option maxRecDepth 100000
set_option maxHeartbeats 1000000
end Go.Eng
end
section
namespace Go.Eng
open Go.Proofs
set_option linter.unusedSimpArgs false
set_option linter.unusedVariables false
theorem yU : dD (newE 8) = true := by decide
theorem yX : allM (newE 8) = [] := by decide
theorem xC {es : List Ent} {t : List Int} {v : Int} (hc : dD es = true) (ht : dR t = true) (hv : 0 ≤ v) (hp : ∀ y ∈ es.filter dW, y.2.1 ≠ t) (hl : (allM es).length ≠ 4000) : putE es t v = 0 := by
  unfold putE
  rw [if_pos hc, if_pos ht, if_neg (by omega)]
  rcases gS es t with h | ⟨q, x, hx, _, h1, h2⟩
  · rw [h, if_neg (by decide), if_neg hl]
  · exact absurd h2 (hp x (List.mem_filter.2 ⟨List.mem_of_getElem? hx, decide_eq_true h1⟩))
theorem rT {es : List Ent} (hc : dD es = true) {x : Ent} (hx : x ∈ es.filter dW) : ∃ i : Nat, fG es x.2.1 = (i : Int) ∧ es[i]? = some x := by
  obtain ⟨h1, h2⟩ := List.mem_filter.1 hx
  obtain ⟨i, hi⟩ := List.mem_iff_getElem?.1 h1
  exact ⟨i, ((iB hc hi).1 (of_decide_eq_true h2)).2.2, hi⟩
theorem find_mem {es : List Ent} (hc : dD es = true) {x : Ent} (hx : x ∈ es.filter dW) : jI es x.2.1 = (x.2.2, true) := by
  obtain ⟨i, h1, h2⟩ := rT hc hx
  unfold jI
  rw [if_pos hc, h1, if_neg (by omega), Int.toNat_natCast, fA h2]
theorem lD {w0 w : World} {F : Nat → Prop} {L : List HP} {a : Option Addr} {n c : Nat} {rs : List REnt} {es : List Ent} (hs : St w0 F w L) (h1 : dH a n c rs ∈ L) (h2 : Own rs es ∈ L) : Sl dEnt All w a n c es := (OwnV.sl (by exact hs.all _ h1) (by exact hs.all _ h2)).weak (fun _ _ => trivial)
theorem tw0 : dR [] = true := by decide
attribute [local irreducible] Hold J JL JD JX JXat OpR OpG Ret RetV Is Blk Row
set_option maxRecDepth 100000
set_option maxHeartbeats 1000000
theorem xA (w : World) (a : Option Addr) (n c : Nat) (es : List Ent) (a2 : Option Addr) (n2 c2 : Nat) (t : List Int) (v : Int) (h : Sl dEnt All w a n c es) (hn : n ≤ 1048576) (h2 : Sl (tInt .u64) All w a2 n2 c2 t) (hv : inK .i64 v) (hp : putE es t v = 0) :
    Ret Tryz.prog 132 #[.agg #[.slice a n c], .slice a2 n2 c2, .int .i64 v] w fun u w' => ∃ (es' : List Ent) (rs' : List REnt) (a' : Option Addr), (dD es' = true ∧ (es'.filter dW).Perm (allM es ++ [(1, t, v)]) ∧ es'.length ≤ 1048576) ∧ u = .tuple #[.agg #[.slice a' es'.length es'.length], .int .i64 0] ∧ Fresh w w' [dH a' es'.length es'.length rs', Own rs' es'] :=
  (put_r w a n c es a2 n2 c2 t v h hn h2 hv).mono fun u w' hh => by
    rcases hh with ⟨h1, _⟩ | ⟨_, h2⟩
    · exact absurd hp h1
    · exact h2
theorem put_bad (w : World) (a : Option Addr) (n c : Nat) (es : List Ent) (a2 : Option Addr) (n2 c2 : Nat) (t : List Int) (v : Int) (h : Sl dEnt All w a n c es) (hn : n ≤ 1048576) (h2 : Sl (tInt .u64) All w a2 n2 c2 t) (hv : inK .i64 v) (hp : putE es t v ≠ 0) :
    Ret Tryz.prog 132 #[.agg #[.slice a n c], .slice a2 n2 c2, .int .i64 v] w fun u w' => u = .tuple #[.agg #[.slice none 0 0], .int .i64 (putE es t v)] ∧ Ext w w' :=
  (put_r w a n c es a2 n2 c2 t v h hn h2 hv).mono fun u w' hh => by
    rcases hh with ⟨_, h1⟩ | ⟨h1, _⟩
    · exact h1
    · exact absurd h1 hp
end Go.Eng
end
section
namespace Go.Eng
open Go.Proofs Go.RowKit
set_option linter.unusedSimpArgs false
set_option linter.unusedVariables false
section
variable {P : Program} {env : Env} {w0 w : World} {F : Nat → Prop} {L : List HP} {dst : Option Tmp} {ty : TypeId} {pos : String} {af : Array Edge} {gd : Option (Nat × Bool)}
end
end Go.Eng
end
section
namespace Go.Eng
open Go.Proofs
set_option linter.unusedSimpArgs false
set_option linter.unusedVariables false
theorem allF_le (es : List Ent) : (allF es).length ≤ 4000 := by
  unfold allF
  by_cases h : dD es = true
  · rw [if_pos h]; exact yZ h
  · rw [if_neg h]; simp
abbrev gone : Ent := (2, [], 0)
theorem lH {es : List Ent} {t : List Int} {h : Int} {p : Nat} {x : Ent} (hx : es[p]? = some x) (hx1 : x.1 = 1) (hxt : x.2.1 ≠ t) : ∀ (f k : Nat), gI (es.set p gone) t h f k = gI es t h f k
  | 0, k => rfl
  | f + 1, k => by
    unfold gI
    rw [List.length_set]
    by_cases c : dX h es.length k = p
    · rw [c, jX (List.getElem?_eq_some_iff.1 hx).1, fA hx]
      rw [if_neg (show ¬ gone.1 = 0 by decide), if_neg (fun z => absurd z.1 (by decide)), if_neg (by omega), if_neg (fun z => hxt z.2)]
      exact lH hx hx1 hxt f (k + 1)
    · rw [jW c, lH hx hx1 hxt f (k + 1)]
theorem tN {es : List Ent} {p : Nat} {x : Ent} (hx : es[p]? = some x) (hx1 : x.1 = 1) : (es.filter dW).Perm (x :: (es.set p gone).filter dW) := by
  have hq := (List.getElem?_eq_some_iff.1 hx).1
  have h1 : es = es.take p ++ x :: es.drop (p + 1) := by
    conv => lhs; rw [← List.take_append_drop p es, List.drop_eq_getElem_cons hq, (List.getElem?_eq_some_iff.1 hx).2]
  have h2 : es.set p gone = es.take p ++ gone :: es.drop (p + 1) := by
    rw [List.set_eq_take_append_cons_drop, if_pos hq]
  rw [h2]
  conv => lhs; rw [h1]
  rw [List.filter_append, List.filter_append, List.filter_cons_of_pos (by simp [dW, hx1]), List.filter_cons_of_neg (by decide)]
  exact List.perm_middle
theorem yN {es : List Ent} {p : Nat} {x y : Ent} (hx : es[p]? = some x) (s : Int) : cnt (es.set p y) s + (if x.1 = s then 1 else 0) = cnt es s + (if y.1 = s then 1 else 0) := by
  have hq := (List.getElem?_eq_some_iff.1 hx).1
  have h1 : es = es.take p ++ x :: es.drop (p + 1) := by
    conv => lhs; rw [← List.take_append_drop p es, List.drop_eq_getElem_cons hq, (List.getElem?_eq_some_iff.1 hx).2]
  have h2 : es.set p y = es.take p ++ y :: es.drop (p + 1) := by
    rw [List.set_eq_take_append_cons_drop, if_pos hq]
  unfold cnt
  rw [h2]
  conv => rhs; rw [h1]
  rw [List.filter_append, List.filter_append, List.length_append, List.length_append, List.filter_cons, List.filter_cons]
  by_cases c1 : x.1 = s <;> by_cases c2 : y.1 = s <;> simp [c1, c2] <;> omega
theorem mK {es : List Ent} (hc : dD es = true) {p : Nat} {x : Ent} (hx : es[p]? = some x) (hx1 : x.1 = 1) : dD (es.set p gone) = true := by
  have hp := (List.getElem?_eq_some_iff.1 hx).1
  have hc' := hc
  unfold dD oU at hc'
  simp only [Bool.and_eq_true, decide_eq_true_eq] at hc'
  obtain ⟨⟨h1, h2, h3, h4, h5⟩, h6⟩ := hc'
  have htk : pX (es.set p gone) = pX es := by
    have a1 := yN (y := gone) hx 1
    have a2 := yN (y := gone) hx 2
    rw [if_pos hx1, if_neg (by decide)] at a1
    rw [if_neg (by omega), if_pos rfl] at a2
    unfold pX; omega
  have hst : stOk (es.set p gone) = true := by
    unfold stOk at h1 ⊢
    rw [List.all_eq_true] at h1 ⊢
    intro y hy
    rcases List.mem_or_eq_of_mem_set hy with hm | rfl
    · exact h1 y hm
    · decide
  unfold dD oU
  rw [hst, htk, List.length_set, decide_eq_true h2, decide_eq_true h3, decide_eq_true h4, decide_eq_true h5, Bool.true_and, Bool.true_and, Bool.true_and, Bool.true_and, Bool.true_and, qG]
  intro i hi
  by_cases c : i = p
  · subst c
    unfold lQ
    rw [jX hi, if_neg (show ¬ gone.1 = 1 by decide)]
    decide
  · have hy : es[i]? = some es[i] := List.getElem?_eq_getElem hi
    obtain ⟨y, hyd⟩ : ∃ y, y = es[i] := ⟨_, rfl⟩
    rw [← hyd] at hy
    have hs := (qG _ _).1 h6 i hi
    unfold lQ at hs ⊢
    rw [jW c, fA hy]
    rw [fA hy] at hs
    by_cases c1 : y.1 = 1
    · rw [if_pos c1] at hs ⊢
      simp only [Bool.and_eq_true, decide_eq_true_eq] at hs ⊢
      refine ⟨hs.1, hs.2.1, ?_⟩
      have hne : x.2.1 ≠ y.2.1 := fun e => by
        have hxp := ((iB hc hx).1 hx1).2.2
        rw [e] at hxp
        have := hs.2.2.symm.trans hxp
        omega
      unfold fG
      rw [List.length_set, lH hx hx1 hne]
      exact hs.2.2
    · rw [if_neg c1] at hs ⊢
      exact hs
end Go.Eng
end
section
namespace Go.Eng
open Go.Proofs
set_option linter.unusedSimpArgs false
set_option linter.unusedVariables false
attribute [local irreducible] Hold J JL JD JX JXat OpR OpG Ret RetV Is Blk Row
set_option maxRecDepth 100000
set_option maxHeartbeats 1000000
theorem cloneE_r (w : World) (a : Option Addr) (n c : Nat) (rs : List REnt) (h : Sl fL All w a n c rs) (hn : n ≤ 1048576) :
    Ret Tryz.prog 177 #[.slice a n c] w fun v w' => ∃ a' c', v = .slice a' n c' ∧ Fresh w w' [dH a' n c' rs] := by
  refine cG (l := [_]) Tryz.func177 rfl Tryz.ntmps177 (by simp) ?_
  have hs := St.init w
  obtain ⟨hsrc, hpl, _⟩ := h.srcF
  have hl := h.len
  cases a with
  | none =>
    have hn0 := hsrc.2.1 rfl
    subst hn0
    have : rs = [] := List.eq_nil_of_length_eq_zero (by omega)
    subst this
    repeat' (first | (apply aR) | ((apply aI); (first | (apply aQ; exact aH rfl aA) | (apply aF; exact aB rfl aA) | (apply aK; exact lY rfl rfl aA)); first | (exact rfl; exact rfl) | exact rfl) | (apply bB) | (apply aG) | (apply aS; refine bZ rfl gb ?_))
    have hs := hs.nilRow 139 3
    refine aY Tryz.func177 rfl (.tmp rfl .nil) ⟨_, _, rfl, hs.out (List.Sublist.refl _)⟩
  | some ad =>
    repeat' (first | ((apply aL; refine JL_o (by apply cV; exact cO hs rfl (by omega) rfl) rfl rfl ?_; rintro _ _ ⟨b, rfl, hb, hs, hE⟩; have hs := hs.toRow 0 0 0 3 (xs := []) (Nat.le_refl _) (by unfold maxLen; omega) (by simp) rfl)) | ((apply aL; refine JL_o (by apply dO; exact fJ hs rfl rfl (Src.st hsrc hs) hpl rfl (by omega) (by unfold maxLen; omega)) rfl rfl ?_; rintro _ _ ⟨a2, c2, rfl, hs, hF, hnil⟩; rw [Nat.zero_add] at hs ⊢; rw [List.nil_append] at hs)) | (apply aR) | ((apply aI); (first | (apply aQ; exact aH rfl aA) | (apply aF; exact aB rfl aA) | (apply aK; exact lY rfl rfl aA)); first | (exact rfl; exact rfl) | exact rfl) | (apply bB) | (apply aG) | (apply bJ) | (apply aS; refine bV rfl gb ?_))
    refine aY Tryz.func177 rfl (.tmp rfl .nil) ⟨_, _, rfl, hs.out (.cons_cons _ (List.nil_sublist _))⟩
end Go.Eng
end
section
namespace Go.Eng
open Go.Proofs
set_option linter.unusedSimpArgs false
set_option linter.unusedVariables false
theorem St.ownSet {w0 w : World} {F : Nat → Prop} {L : List HP} {rs : List REnt} {es : List Ent} (h : St w0 F w (Own rs es :: L)) (p : Nat) : St w0 F w (Own (rs.set p (2, (none, 0, 0), 0)) (es.set p gone) :: L) := by
  refine h.conv (fun k hk => ?_) (fun hh => ?_)
  · obtain ⟨r, hr, hk⟩ := hk
    rcases List.mem_or_eq_of_mem_set hr with hm | rfl
    · exact ⟨r, hm, hk⟩
    · simp [dN] at hk
  · have hh : OwnV w rs es := hh
    refine ⟨by rw [List.length_set, List.length_set]; exact hh.1, fun i r x hr hx => ?_⟩
    rw [List.getElem?_set] at hr hx
    by_cases c : p = i
    · subst c
      rw [if_pos rfl] at hr hx
      have hl := hh.1
      by_cases c2 : p < rs.length
      · rw [if_pos c2] at hr
        rw [if_pos (by omega)] at hx
        cases hr; cases hx
        exact ⟨⟨rfl, rfl, rfl, by unfold inK; decide, by unfold inK; decide⟩, kW w _ _, fun v hv => by cases hv⟩
      · rw [if_neg c2] at hr; cases hr
    · rw [if_neg c] at hr hx
      exact hh.2 i r x hr hx
def sF (es : List Ent) (t : List Int) : Int := if dD es then (if fG es t < 0 then 4 else 0) else 170
attribute [local irreducible] Hold J JL JD JX JXat OpR OpG Ret RetV Is Blk Row
set_option maxRecDepth 100000
set_option maxHeartbeats 1000000
theorem drop_r (w : World) (a : Option Addr) (n c : Nat) (es : List Ent) (a2 : Option Addr) (n2 c2 : Nat) (t : List Int) (h : Sl dEnt All w a n c es) (hn : n ≤ 1048576) (h2 : Sl (tInt .u64) All w a2 n2 c2 t) :
    Ret Tryz.prog 106 #[.agg #[.slice a n c], .slice a2 n2 c2] w fun u w' => (sF es t ≠ 0 ∧ u = .tuple #[.agg #[.slice none 0 0], .int .i64 (sF es t)] ∧ Ext w w') ∨
      (sF es t = 0 ∧ ∃ (p : Nat) (x : Ent) (rs' : List REnt) (a' : Option Addr) (c' : Nat), (es[p]? = some x ∧ x.1 = 1 ∧ x.2.1 = t) ∧ u = .tuple #[.agg #[.slice a' n c'], .int .i64 0] ∧ Fresh w w' [dH a' n c' rs', Own rs' (es.set p gone)]) := by
  refine cG (l := [_, _]) Tryz.func106 rfl Tryz.ntmps106 (by simp) ?_
  have hs := St.init w
  unfold sF
  by_cases hc : dD es = true
  · rw [if_pos hc]
    rcases gS es t with hp | ⟨p, xp, hxp, hp, hxp1, hxp2⟩
    · rw [hp, if_pos (by decide)]
      repeat' (first | ((apply aW 118; refine JL_o (by exact aC lF rfl (eV _ a n c es (h.st hs) hn)) rfl rfl ?_; rintro _ _ ⟨rfl, hE⟩; rw [if_pos hc]; have hs := hs.ext hE; (try simp only [zcc] at hs))) | ((apply aW 176; refine JL_o (by exact aC sD rfl (kI _ a n c es a2 n2 c2 t (h.st hs) hn (h2.st hs))) rfl rfl ?_; rintro _ _ ⟨rfl, hE⟩; rw [hp]; have hs := hs.ext hE; (try simp only [zcc] at hs))) | (apply aR) | ((apply aI); (first | (apply aQ; exact aH rfl aA) | (apply aF; exact aB rfl aA) | (apply aV; exact aJ hs rfl aA) | (apply aK; exact aM rfl rfl rfl aA) | (apply cY; exact cL rfl (by (simp only [bld, cQ, bQ, Value.cells, List.take_succ_cons, List.take_zero, List.drop_succ_cons, List.drop_zero, List.cons_append, List.nil_append, List.length_cons, List.length_nil, List.getElem?_cons_zero, List.getElem?_cons_succ, Option.map_some, List.append_nil, Nat.reduceAdd, Nat.reduceMul, Nat.zero_add, Nat.reduceLeDiff, and_self, if_true, List.toList_toArray, Nat.le_refl, Nat.zero_mul, Nat.one_mul]; first | done | rfl)) aA)); first | (exact rfl; exact rfl) | exact rfl) | (apply bB) | (apply aG) | (apply bJ) | (apply aL (t := 2); refine JL_o (by apply cD; exact bG hs rfl) rfl rfl ?_; rintro _ _ ⟨b2, rfl, hb2, hs, hE⟩) | (apply aL (t := 4); refine JL_o (by apply bE; exact aX hs) rfl rfl ?_; rintro _ _ ⟨b4, rfl, hb4, hs, hE⟩) | (apply bH; refine JL_u (by apply bA; exact aZ hs rfl rfl rfl) rfl ?_; rintro _ _ ⟨hs, hF⟩) | (apply aS; first | refine bF rfl ob ?_ | refine bK rfl ob ?_))
      refine aY Tryz.func106 rfl (.agg' hs rfl rfl (.tmp rfl .nil)) (.inl ⟨by decide, rfl, hs.frm.ext⟩)
    rw [hp, if_neg (by omega)]
    have ht := fun x hx => Nat.le_trans (lX hc (x := x) hx) (by decide : 12 ≤ 4000000000)
    obtain ⟨rs, hr, hm⟩ := Sl.raw (D := lR) h
    have hl := hr.len
    have hle := h.len
    have hok := qC h
    have hpn : p < n := by rw [← hle]; exact (List.getElem?_eq_some_iff.1 hxp).1
    repeat' (first | ((apply aW 118; refine JL_o (by exact aC lF rfl (eV _ a n c es (h.st hs) hn)) rfl rfl ?_; rintro _ _ ⟨rfl, hE⟩; rw [if_pos hc]; have hs := hs.ext hE; (try simp only [zcc] at hs))) | ((apply aW 176; refine JL_o (by exact aC sD rfl (kI _ a n c es a2 n2 c2 t (h.st hs) hn (h2.st hs))) rfl rfl ?_; rintro _ _ ⟨rfl, hE⟩; rw [hp]; have hs := hs.ext hE; (try simp only [zcc] at hs))) | ((apply aW 177; refine JL_o (by exact aC en177 rfl (cloneE_r _ a n c rs (hr.st hs) hn)) rfl rfl ?_; rintro _ _ ⟨a1, c1, rfl, hf⟩; have hs := hs.fresh hf; (try simp only [zcc] at hs))) | (apply aR) | ((apply aI); (first | (apply aQ; exact aH rfl aA) | (apply aF; exact aB rfl aA) | (apply aT; exact aP rfl rfl aA) | (apply aV; first | exact aU hs rfl rfl aA | exact aJ hs rfl aA) | (apply aK; exact aM rfl rfl rfl aA) | (apply bL; exact bY rfl aA) | (apply cY; exact cL rfl (by (simp only [bld, cQ, bQ, Value.cells, List.take_succ_cons, List.take_zero, List.drop_succ_cons, List.drop_zero, List.cons_append, List.nil_append, List.length_cons, List.length_nil, List.getElem?_cons_zero, List.getElem?_cons_succ, Option.map_some, List.append_nil, Nat.reduceAdd, Nat.reduceMul, Nat.zero_add, Nat.reduceLeDiff, and_self, if_true, List.toList_toArray, Nat.le_refl, Nat.zero_mul, Nat.one_mul]; first | done | rfl)) aA)); first | (exact rfl; exact rfl) | exact rfl) | (apply bB) | (apply aG) | (apply bC) | (apply bJ) | (apply aL (t := 2); refine JL_o (by apply cD; exact bG hs rfl) rfl rfl ?_; rintro _ _ ⟨b2, rfl, hb2, hs, hE⟩) | (apply aL (t := 4); refine JL_o (by apply bE; exact aX hs) rfl rfl ?_; rintro _ _ ⟨b4, rfl, hb4, hs, hE⟩) | (apply aL (t := 8); refine JL_o (by apply bE; exact aX hs) rfl rfl ?_; rintro _ _ ⟨b8, rfl, hb8, hs, hE⟩) | (apply bH; refine JL_u (by apply bA; exact aZ hs rfl rfl rfl) rfl ?_; rintro _ _ ⟨hs, hF⟩) | (apply aS; refine bK rfl ob ?_))
    have hs := hs.nilOwn
    refine dG (α := Nat × List REnt) [(4, _), (7, _), (8, _), (28, _), (29, _)] (fun g => [(30, .int .i64 g.1)]) (fun g w' => St w NoF w' [dH a1 n c1 (g.2 ++ rs.drop g.1), Own g.2 (es.take g.1), Blk b8 (.cells #[.slice a1 n c1] 55 (0, 0)), Blk b4 (.cells #[.slice none 0 0] 55 (0, 0))] ∧ g.2.length = g.1 ∧ g.1 ≤ n) (fun g => n - g.1) (0, []) ⟨hs.sel [2, 0, 1, 3] (by decide), rfl, Nat.zero_le _⟩ zss ?_
    rintro ⟨k, rs3⟩ w2 ⟨hs1, hk3, hk⟩ ih
    dsimp only at hs1 hk3 hk ih ⊢
    by_cases hlt : k < n
    · obtain ⟨b, o, rfl⟩ := (hs1.row a1 n c1).some (by omega)
      have hs : St w NoF w2 [_, _, _, _] := hs1
      have hx : es[k]? = some (es[k]'(by omega)) := List.getElem?_eq_getElem (by omega)
      obtain ⟨x, hxd⟩ : ∃ x, x = es[k]'(by omega) := ⟨_, rfl⟩
      rw [← hxd] at hx
      obtain ⟨r, hrx, hrel⟩ := hm.get hx
      obtain ⟨ok1, ok2, ok3⟩ := hok x (List.mem_of_getElem? hx)
      have ok4 := ht x (List.mem_of_getElem? hx)
      have e1 : r.1 = x.1 := hrel.1
      have e3 : r.2.2 = x.2.2 := hrel.2.2
      have m2 : Sl (tInt .u64) All w r.2.1.1 r.2.1.2.1 r.2.1.2.2 x.2.1 := hrel.2.1
      have mlen := m2.len
      have hcur : (rs3 ++ rs.drop k)[k]? = some r := by rw [List.getElem?_append_right (by omega), hk3, Nat.sub_self, List.getElem?_drop, Nat.add_zero]; exact hrx
      have hld : ∀ (q : Nat) (u : Value), (cR r)[q]? = some u → (encL cR (rs3 ++ rs.drop k))[k * 3 + q]? = some u := fun q u hq => by
        have hq3 : q < 3 := (List.getElem?_eq_some_iff.1 hq).1
        rw [show (encL cR (rs3 ++ rs.drop k))[k * 3 + q]? = (cR r)[q]? from eX (d := fL) (rs3 ++ rs.drop k) k q r hcur hq3]; exact hq
      have htk : es.take (k + 1) = es.take k ++ [x] := by rw [List.take_add_one, hx]; rfl
      repeat' (first | ((apply ax_c; apply kT 24; exact rfl; (intro W X hN hs; exact aC en24 rfl (qW _ r.2.1.1 r.2.1.2.1 r.2.1.2.2 x.2.1 (m2.st hs) (by omega))); (rintro _ _ _ _ ⟨a3, c3, rfl, hf⟩; first | exact hE | exact Fresh.ext hf); rintro W X _ _ hN hs ⟨a3, c3, rfl, hf⟩; have hs := hs.fresh hf; (try simp only [zcc] at hs); refine JX.at hs ?_)) | ((apply bH; have hset := (oE (rs3 ++ rs.drop k) k r (a3, r.2.1.2.1, c3) hcur).trans (congrArg (encL cR) (nL rs3 rs k (r.1, (a3, r.2.1.2.1, c3), r.2.2) hk3 (by omega))); refine JL_u (by apply bA; exact dJ (b := b) (o := o) (off := k * 3 + 1) (n := n) (c := c1) (vs := [.slice a3 r.2.1.2.1 c3]) hs rfl rfl rfl rfl (by simp [Value.oneCell']) (by show k * 3 + 1 + 1 ≤ n * 3; omega)) rfl ?_; rintro _ _ ⟨hs, hF⟩; rw [hset] at hs)) | (apply aR) | ((first | (apply aI) | (apply JX_f; exact rfl; intro W X hs)); (first | (apply aV; first | exact aU hs rfl rfl aA | exact aJ hs rfl aA | exact iL (b := b) (o := o) (off := k * 3) (n := n) (c := c1) hs rfl rfl hld aA) | (apply aQ; exact aH rfl aA) | (apply aF; exact aB rfl aA) | (apply aT; first | exact aP rfl rfl aA | exact bP rfl rfl aA) | (apply cJ; exact bR rfl rfl (by omega) (by first | (simp only [Int.reduceAdd]; exact rfl) | exact rfl) aA) | (apply aK; exact aM rfl rfl rfl aA) | (apply aO; exact aN rfl rfl (by omega) (by omega) aA)); first | (exact rfl; exact rfl) | exact rfl) | (apply bB) | (apply aG) | (apply bC) | (apply bN) | (apply bJ) | (apply aL (t := 10); refine JL_o (by apply bE; exact aX hs) rfl rfl ?_; rintro _ _ ⟨b10, rfl, hb10, hs, hE⟩) | (apply bH; refine JL_u (by apply bA; exact aZ hs rfl rfl rfl) rfl ?_; rintro _ _ ⟨hs, hF⟩) | (apply aS; refine bF rfl ob ?_) | (apply dB; (refine dE (id := 11) [0, 1, 0, 0, 8, 24, 63, 127, 255] [(0, 0), (1, 0), (2, 0), (3, 0), (4, 0), (5, 1), (6, 0), (7, 0)] [8] hs eI (by kernel_rfl) (by kernel_rfl) (by kernel_rfl) (by kernel_rfl) (by kernel_rfl) ?_)) | (refine dA (fun W hs => ?_)) | (apply fS; case' hos => (simp only [List.map_cons, List.map_nil, List.getElem?_toArray, List.getElem?_cons_succ, List.getElem?_cons_zero]; repeat' (first | exact gZ | apply fQ))))
      have hs : St w NoF _ [Row a3 r.2.1.2.1 c3 29 1 (rN x.2.1), Own rs3 (es.take k), dH (some ⟨b, o, none⟩) n c1 (rs3 ++ [(r.1, (a3, r.2.1.2.1, c3), r.2.2)] ++ rs.drop (k + 1)), Blk b8 _, Blk b4 _] := hs.sel [0, 3, 2, 4, 5] (by decide)
      have hs := St.pushOwn hs mlen.symm r.1 r.2.2 (by rw [e1]; exact ok1) (by rw [e3]; exact ok2) ok3
      have hx3 : (r.1, x.2.1, r.2.2) = x := by rw [e1, e3]
      rw [hx3, ← htk] at hs
      refine ih (k + 1, rs3 ++ [(r.1, (a3, r.2.1.2.1, c3), r.2.2)]) _ _ ⟨hs.sel [1, 0, 2, 3] (by decide), by simp [hk3], by dsimp only; omega⟩ (by dsimp only; omega) zss
    · have hkn : k = n := by omega
      rw [hkn, List.drop_of_length_le (by omega), List.append_nil, List.take_of_length_le (by omega)] at hs1
      obtain ⟨b, o, rfl⟩ := (hs1.row a1 n c1).some (by omega)
      have hs : St w NoF w2 [_, _, _, _] := hs1
      have hset : encL cR (rs3.set p (2, (none, 0, 0), 0)) = bQ (encL cR rs3) (p * 3) (cR (2, (none, 0, 0), 0)) := jZ (d := fL) rs3 p _ (by omega)
      repeat' (first | ((apply bH; refine JL_u (by apply bA; exact dJ (b := b) (o := o) (off := p * 3) (n := n) (c := c1) (vs := cR (2, (none, 0, 0), 0)) hs rfl rfl rfl rfl (fun u hu => by simp only [List.mem_cons, List.not_mem_nil, or_false] at hu; rcases hu with rfl | rfl | rfl <;> rfl) (by show p * 3 + 3 ≤ n * 3; omega)) rfl ?_; rintro _ _ ⟨hs, hF⟩; rw [← hset] at hs)) | (apply aR) | ((apply aI); (first | (apply aV; first | exact aU hs rfl rfl aA | exact aJ hs rfl aA) | (apply aQ; exact aH rfl aA) | (apply aF; exact aB rfl aA) | (apply aT; exact aP rfl rfl aA) | (apply aK; exact aM rfl rfl rfl aA) | (apply aO; exact aN rfl rfl (by omega) (by omega) aA) | (apply cY; exact cL rfl (by (simp only [bld, cQ, bQ, Value.cells, List.take_succ_cons, List.take_zero, List.drop_succ_cons, List.drop_zero, List.cons_append, List.nil_append, List.length_cons, List.length_nil, List.getElem?_cons_zero, List.getElem?_cons_succ, Option.map_some, List.append_nil, Nat.reduceAdd, Nat.reduceMul, Nat.zero_add, Nat.reduceLeDiff, and_self, if_true, List.toList_toArray, Nat.le_refl, Nat.zero_mul, Nat.one_mul]; first | done | rfl)) aA)); first | (exact rfl; exact rfl) | exact rfl) | (apply bB) | (apply aG) | (apply cI; refine cZ rfl ?_) | (apply bH; refine JL_u (by apply bA; exact aZ hs rfl rfl rfl) rfl ?_; rintro _ _ ⟨hs, hF⟩) | (apply aS; refine bK rfl ob ?_))
      have hs : St w NoF _ [Own rs3 es, dH (some ⟨b, o, none⟩) n c1 (rs3.set p (2, (none, 0, 0), 0)), Blk b8 _, Blk b4 _] := hs.sel [1, 0, 2, 3] (by decide)
      have hs := St.ownSet hs p
      have hs : St w NoF _ [dH (some ⟨b, o, none⟩) n c1 (rs3.set p (2, (none, 0, 0), 0)), Own (rs3.set p (2, (none, 0, 0), 0)) (es.set p gone), Blk b8 _, Blk b4 _] := hs.sel [1, 0, 2, 3] (by decide)
      refine aY Tryz.func106 rfl (.agg' hs rfl rfl (.tmp rfl .nil)) (.inr ⟨rfl, p, xp, _, _, _, ⟨hxp, hxp1, hxp2⟩, rfl, hs.out (.cons_cons _ (.cons_cons _ (List.nil_sublist _)))⟩)
  · rw [if_neg hc]
    repeat' (first | ((apply aW 118; refine JL_o (by exact aC lF rfl (eV _ a n c es (h.st hs) hn)) rfl rfl ?_; rintro _ _ ⟨rfl, hE⟩; rw [if_neg hc]; have hs := hs.ext hE; (try simp only [zcc] at hs))) | (apply aR) | ((apply aI); (first | (apply aQ; exact aH rfl aA) | (apply aF; exact aB rfl aA) | (apply aV; exact aJ hs rfl aA) | (apply aK; exact aM rfl rfl rfl aA) | (apply cY; exact cL rfl (by (simp only [bld, cQ, bQ, Value.cells, List.take_succ_cons, List.take_zero, List.drop_succ_cons, List.drop_zero, List.cons_append, List.nil_append, List.length_cons, List.length_nil, List.getElem?_cons_zero, List.getElem?_cons_succ, Option.map_some, List.append_nil, Nat.reduceAdd, Nat.reduceMul, Nat.zero_add, Nat.reduceLeDiff, and_self, if_true, List.toList_toArray, Nat.le_refl, Nat.zero_mul, Nat.one_mul]; first | done | rfl)) aA)); first | (exact rfl; exact rfl) | exact rfl) | (apply bB) | (apply aG) | (apply aL (t := 2); refine JL_o (by apply cD; exact bG hs rfl) rfl rfl ?_; rintro _ _ ⟨b2, rfl, hb2, hs, hE⟩) | (apply aL (t := 4); refine JL_o (by apply bE; exact aX hs) rfl rfl ?_; rintro _ _ ⟨b4, rfl, hb4, hs, hE⟩) | (apply bH; refine JL_u (by apply bA; exact aZ hs rfl rfl rfl) rfl ?_; rintro _ _ ⟨hs, hF⟩) | (apply aS; refine bF rfl ob ?_))
    refine aY Tryz.func106 rfl (.agg' hs rfl rfl (.tmp rfl .nil)) (.inl ⟨by decide, rfl, hs.frm.ext⟩)
end Go.Eng
end
section
namespace Go.Eng
open Go.Proofs
set_option linter.unusedSimpArgs false
set_option linter.unusedVariables false
attribute [local irreducible] Hold J JL JD JX JXat OpR OpG Ret RetV Is Blk Row
set_option maxRecDepth 100000
set_option maxHeartbeats 1000000
end Go.Eng
end
section
namespace Go.Eng
open Go.RowKit
section
variable {P : Program} {f : FuncId} {ro : Option Nat} {n : Nat} {R : Value → World → Prop} {k : List Item} {ds : List Deferred} {env env0 : Env} {w0 w w' : World} {F : Nat → Prop}
variable {ops : Array Oper} {T : List Nat} {X Z : Nat → Prop} {N0 : Nat} {C0 : List HP} {D D' : List (Nat × Value)} {τ : List Nat}
variable {A : List AE} {σ : List (Nat × Nat)} {C : List HP}
variable {op : Op} {ty : TypeId} {pos : String} {af : Array Edge}
theorem JX_cu {i : Nat} {S : World → HP → Value → World → Prop} (ho : ops[i]? = some ⟨none, op, ty, pos, af, none⟩) (h : ∀ W X, N0 ≤ W.heap.size → St w0 F W (X :: C) → OpR P env ⟨none, op, ty, pos, af, none⟩ W (S W X)) (hS : ∀ W X v w', S W X v w' → Rl Z W w') (hnd : cU op = true)
    (hk : ∀ W X v w', N0 ≤ W.heap.size → St w0 F W (X :: C) → S W X v w' → JXat P f ro n R ops T w0 F Z N0 C0 A σ τ ((i, v) :: D) env0 k ds env w' X) : JX P f ro n R ops T w0 F Z N0 C0 A ((i, 1) :: σ) τ D env0 k ds env C :=
  oO ho hnd (fun W X hN hs => iY rfl (h W X hN hs)) hS hk
end
end Go.Eng
end
section
namespace Go.Eng
open Go.RowKit
set_option linter.unusedVariables false
section
variable {P : Program} {env : Env} {w0 w : World} {F : Nat → Prop} {L : List HP} {dst : Option Tmp} {ty : TypeId} {pos : String} {af : Array Edge} {gd : Option (Nat × Bool)} {S : Value → World → Prop}
theorem RetV.ext {g : FuncId} {args : Array Value} {v : Value} (h : (callFunc g args).run P w = .ok (.value v) w) (hS : S v w) : RetV P (.func (.func g) #[] #[]) args w S :=
  ⟨{ target := .fn (.func g) #[], args := args }, .value v, w, by simp [Deferred.ofValue], by simp only [invoke, Array.append_empty]; exact h, hS⟩
theorem St.growRow {a : Option Addr} {n c e sz : Nat} {xs : List Value} (h : St w0 F w (Row a n c e sz xs :: L)) (m : Nat) (hm : n ≤ m) (hmc : m ≤ c) : ∃ ys, ys.length = (m - n) * sz ∧ St w0 F w (Row a m c e sz (xs ++ ys) :: L) := by
  obtain ⟨h1, h2, h3, h4⟩ : RowV w a n c e sz xs := h.all _ List.mem_cons_self
  rcases h4 with ⟨rfl, hc⟩ | ⟨g, o, cur, rfl, hg, hsz, ht⟩
  · have hn : n = 0 := by omega
    have hm0 : m = 0 := by omega
    subst hn hm0 hc
    exact ⟨[], by simp, by rw [List.append_nil]; exact h⟩
  · have hmsz : m * sz ≤ c * sz := Nat.mul_le_mul_right _ hmc
    have hnsz : n * sz ≤ m * sz := Nat.mul_le_mul_right _ hm
    have e1 : (cur.toList.drop o).take (m * sz) = xs ++ ((cur.toList.drop o).drop (n * sz)).take ((m - n) * sz) := by
      rw [← ht, Nat.sub_mul, ← List.take_add, show n * sz + (m * sz - n * sz) = m * sz by omega]
    refine ⟨((cur.toList.drop o).drop (n * sz)).take ((m - n) * sz), ?_, h.conv (fun k hk => hk) (fun _ => ?_)⟩
    · rw [List.length_take, List.length_drop, List.length_drop, Array.length_toList, Nat.sub_mul]
      omega
    · refine ⟨?_, hmc, h3, .inr ⟨g, o, cur, rfl, hg, hsz, e1⟩⟩
      rw [← e1, List.length_take, List.length_drop, Array.length_toList]
      omega
theorem RowV.srcDrop {a : Option Addr} {n c e sz : Nat} {xs : List Value} (h : RowV w a n c e sz xs) (i m : Nat) {zs : List Value} (hzs : (xs.drop (i * sz)).take (m * sz) = zs) (h1 : ∀ u ∈ zs, u.oneCell' = true) (hi : i + m ≤ n) (hm : 0 < m) : Src w (a.map (·.add (i * sz))) m sz zs := by
  subst hzs
  have hl := h.1
  refine ⟨?_, fun ha => ?_, h1, fun b o ha j u hj => ?_⟩
  · rw [List.length_take, List.length_drop, hl]
    have : (i + m) * sz ≤ n * sz := Nat.mul_le_mul_right _ hi
    rw [Nat.add_mul] at this
    omega
  · obtain ⟨b, o, rfl⟩ := h.some (by omega)
    cases ha
  · obtain ⟨b', o', rfl⟩ := h.some (by omega)
    simp only [Option.map_some, Option.some.injEq, eA] at ha
    cases ha
    rw [List.getElem?_take] at hj
    split at hj
    · rw [List.getElem?_drop] at hj
      have := h.cells rfl hj
      rw [Nat.add_assoc]; exact this
    · cases hj
theorem oK {t tn e : Nat} {kn kq : IntKind} {sz by_ : Nat} {z : Value} {a : Option Addr} {n c i k : Nat} {xs : List Value} {x y : Operand} {f : HP → List HP} [U : Und P t (.slice e)] [U' : Und P tn (.int kn)] [Z : Sz P e sz] [B : Byt P e by_] [Zr : Zer P e z]
    (hs : St w0 F w L) (hx : ev env x = some (.slice a i c)) (hy : ev env y = some (.int kq k)) [r : RowAt L a n c e sz xs f] (hi : i ≤ n) (hk : 0 < k) (hz0 : 0 < sz) (hg : c < i + k) (hz : z.cells.size = sz) (hb : (i + k) * by_ ≤ 140737488355328) (h63 : i + k ≤ maxLen) :
    OpR P env ⟨dst, .call ⟨.builtin .append, #[x, y], #[t, tn]⟩, ty, pos, af, gd⟩ w (fun v w' => ∃ b c' zs, v = .slice (some ⟨b, 0, none⟩) (i + k) c' ∧ zs.length = k * sz ∧ St w0 F w' (Row (some ⟨b, 0, none⟩) (i + k) c' e sz (xs.take (i * sz) ++ zs) :: L) ∧ Ext w w') := by
  obtain ⟨inf, hinf, hi1, hi2, hi3⟩ := nY (P := P) (e := e) (sz := sz) (by_ := by_) (z := z)
  have hrow := hs.row a n c
  obtain ⟨hl, hnc, hcm, hcase⟩ := id hrow
  have hlx : (xs.take (i * sz)).length = i * sz := by
    have : i * sz ≤ n * sz := Nat.mul_le_mul_right _ hi
    rw [List.length_take]; omega
  have hold : (Builtin.firstCells inf.size i (.slice a i c)).run P w.drew = .ok (xs.take (i * sz)).toArray w.drew := by
    rw [hi1]
    rcases hcase with ⟨rfl, hc0⟩ | ⟨g, o, cur, rfl, hgg, hsz, ht⟩
    · have hn0 : n = 0 := by omega
      have hi0 : i = 0 := by omega
      subst hn0 hi0
      rw [Nat.zero_mul, List.take_zero]
      exact run_firstCells_none w.drew sz 0 0 c
    · exact run_firstCells_some w.drew sz i ⟨g, o, none⟩ i c (xs.take (i * sz)) hlx (fun j v hj => by
        rw [eA]
        rw [List.getElem?_take] at hj
        split at hj
        · exact RowV.cells hrow rfl hj
        · cases hj)
  have h := Lib.run_append_grow_zeros w t tn ty e inf z kq kn U.h U'.h hinf hi3 a i c (xs.take (i * sz)) hold k hk (by rw [hi1]; exact hz0) hg (by unfold maxLen at h63; omega)
    (by rw [hi2]; have : k * by_ ≤ (i + k) * by_ := Nat.mul_le_mul_right _ (by omega); omega) (growslice_fits hg (by rw [hi2]; exact hb))
  have hge := grownCap_ge w (i + k) c e
  have hcm' : grownCap w (i + k) c e ≤ maxLen := grownCap_le_maxLen w (i + k) c e h63
  have hzc : (Builtin.zeroCells z.cells k).toList.length = k * sz := by rw [Array.length_toList, size_zeroCells, hz]
  have hF : Fresh w (w.drew.alloc (.cells ((xs.take (i * sz)).toArray ++ Builtin.zeroCells z.cells k ++ Builtin.zeroCells z.cells (grownCap w (i + k) c e - (i + k))) e)) [Row (some ⟨w.heap.size, 0, none⟩) (i + k) (grownCap w (i + k) c e) e sz (xs.take (i * sz) ++ (Builtin.zeroCells z.cells k).toList)] := by
    refine ⟨⟨rfl, rfl, rfl, by simp, fun k hk => (by first | exact heap_alloc_old w.drew _ hk | exact heap_alloc_old w.drew _ _ hk), Nat.le_succ _⟩, fun d hd => ?_, fun d hd k hk => ?_, List.pairwise_singleton _ _⟩
    · rw [List.mem_singleton.1 hd]
      refine ⟨by rw [List.length_append, hlx, hzc, Nat.add_mul], hge, hcm', .inr ⟨w.heap.size, 0, _, rfl, heap_alloc_new w.drew _, ?_, ?_⟩⟩
      · simp only [Array.size_append, List.size_toArray, size_zeroCells, hz, hlx, Nat.zero_add, ← Nat.add_mul]
        apply Nat.le_of_eq
        congr 1
        omega
      · simp only [Array.toList_append, List.drop_zero]
        have : (i + k) * sz = (xs.take (i * sz) ++ (Builtin.zeroCells z.cells k).toList).length := by rw [List.length_append, hlx, hzc, Nat.add_mul]
        rw [this]
        exact List.take_left
    · rw [List.mem_singleton.1 hd] at hk
      have hk : w.heap.size = k := by simpa [Row, dN] using hk
      subst hk
      exact ⟨Nat.le_refl _, by simp⟩
  obtain ⟨W', hW'⟩ : ∃ W', W' = w.drew.alloc (.cells ((xs.take (i * sz)).toArray ++ Builtin.zeroCells z.cells k ++ Builtin.zeroCells z.cells (grownCap w (i + k) c e - (i + k))) e) := ⟨_, rfl⟩
  rw [← hW'] at h hF
  refine .val (w' := W') (v := .slice (some ⟨w.heap.size, 0, none⟩) (i + k) (grownCap w (i + k) c e)) (fun _ hm => by simp [execOp, resolve, invoke, builtin, hm.eval hx, hm.eval hy, h]) ?_
  have hs2 := hs.fresh hF
  rw [List.singleton_append] at hs2
  exact ⟨w.heap.size, _, _, rfl, hzc, hs2, hF.ext⟩
theorem lJ {t t' e e' : Nat} {sz by_ : Nat} {z : Value} {a ax : Option Addr} {n c m cx : Nat} {xs news : List Value} {x y : Operand} {f : HP → List HP} [U : Und P t (.slice e)] [U' : Und P t' (.slice e')] [Z : Sz P e sz] [B : Byt P e by_] [Zr : Zer P e z]
    (hs : St w0 F w L) (hx : ev env x = some (.slice a n c)) (hy : ev env y = some (.slice ax m cx)) [r : RowAt L a n c e sz xs f] (hsrc : Src w ax m sz news) (hp : 0 < m → iK ax) (hroom : n + m ≤ c) :
    OpR P env ⟨dst, .call ⟨.builtin .append, #[x, y], #[t, t']⟩, ty, pos, af, gd⟩ w (fun v w' => v = .slice a (n + m) c ∧ St w0 F w' (f (Row a (n + m) c e sz (xs ++ news))) ∧ Frm (dN a) w w') := by
  obtain ⟨inf, hi, hi1, hi2, hi3⟩ := nY (P := P) (e := e) (sz := sz) (by_ := by_) (z := z)
  have hfx := eF (P := P) (l := m) (c := cx) hsrc hp
  obtain ⟨hl, hnc, hcm, hcase⟩ := hs.row a n c
  have hlx := hsrc.1
  rcases hcase with ⟨rfl, hc0⟩ | ⟨g, o, cur, rfl, hg, hsz, ht⟩
  · have hm0 : m = 0 := by omega
    have hn0 : n = 0 := by omega
    subst hm0 hn0 hc0
    have hn : news = [] := List.eq_nil_of_length_eq_zero (by simpa using hlx)
    subst hn
    have hx0 : xs = [] := List.eq_nil_of_length_eq_zero (by simpa using hl)
    subst hx0
    refine .val (w' := w) (v := .slice none 0 0) (fun _ hm => by simp [execOp, resolve, invoke, builtin, hm.eval hx, hm.eval hy, Builtin.append_, run_underlying U.h, run_underlying U'.h, sizeOf, typeInfo, hi, hi1, Builtin.lenOf, hfx]) ⟨rfl, ?_, ⟨rfl, rfl, rfl, Nat.le_refl _, fun _ _ _ => rfl, Nat.le_refl _⟩⟩
    exact hs.turn (r.ctx.up _) (Ext.refl w |>.frm _) (kW w e sz) (fun k hk => by simp [Row, dN] at hk)
  · have hfit : o + n * sz + news.length ≤ cur.size := by
      have : (n + m) * sz ≤ c * sz := Nat.mul_le_mul_right _ hroom
      rw [hlx]; rw [Nat.add_mul] at this; omega
    have hst := run_storeCells_at P g (o + n * sz) e news 0 cur w hg (by simpa using hfit) hsrc.2.2.1
    simp only [Nat.add_zero] at hst
    have hrun : (Builtin.append_ #[t, t'] ty #[.slice (some ⟨g, o, none⟩) n c, .slice ax m cx]).run P w = .ok (.slice (some ⟨g, o, none⟩) (n + m) c) (w.setRow g (cur.toList.take (o + n * sz) ++ news ++ cur.toList.drop (o + n * sz + news.length)).toArray) := by
      simp [Builtin.append_, run_underlying U.h, run_underlying U'.h, sizeOf, typeInfo, hi, hi1, Builtin.lenOf, hroom, hfx, eA, hst]
    rw [kE hg] at hrun
    have hlt : g < w.heap.size := (Array.getElem?_eq_some_iff.1 hg).1
    obtain ⟨W', hW'⟩ : ∃ W' : World, W' = { w with heap := w.heap.setIfInBounds g (.cells (cur.toList.take (o + n * sz) ++ news ++ cur.toList.drop (o + n * sz + news.length)).toArray e (0, 0)) } := ⟨_, rfl⟩
    rw [← hW'] at hrun
    refine .val (w' := W') (v := .slice (some ⟨g, o, none⟩) (n + m) c) (fun _ hm => by simp [execOp, resolve, invoke, builtin, hm.eval hx, hm.eval hy, hrun]) ?_
    have hF : Frm (Row (some ⟨g, o, none⟩) n c e sz xs).foot w W' := by subst hW'; exact ⟨rfl, rfl, rfl, by simp, fun k hk hf => by
      have : g ≠ k := fun e => hf (by simp [Row, dN, e])
      simp [Array.getElem?_setIfInBounds_ne this], Nat.le_refl _⟩
    subst hW'
    refine ⟨rfl, hs.turn (r.ctx.up _) hF ⟨by rw [List.length_append, hl, hlx, Nat.add_mul], hroom, hcm, .inr ⟨g, o, _, rfl, by simp [hlt]; rfl, ?_, ?_⟩⟩ (fun k hk => ⟨?_, .inl hk⟩), hF⟩
    · simp only [List.size_toArray, List.length_append, List.length_take, List.length_drop, Array.length_toList]
      omega
    · have hle : o + n * sz ≤ cur.size := by omega
      have e1 : cur.toList.take (o + n * sz) = cur.toList.take o ++ xs := by
        rw [← ht, List.take_add]
      have ho : o ≤ cur.toList.length := by simp; omega
      simp only [e1, List.append_assoc]
      rw [List.drop_append_of_le_length (by simp; omega), List.drop_of_length_le (by simp; omega), List.nil_append, ← List.append_assoc]
      have : (n + m) * sz = (xs ++ news).length := by rw [List.length_append, hl, hlx, Nat.add_mul]
      rw [this]
      exact List.take_left
    · have hk : g = k := by simpa [Row, dN] using hk
      subst hk; simpa using hlt
theorem rB {T e n c : Nat} {a : Option Addr} {x : Operand} [U : Und P T (.slice e)] (hx : ev env x = some (.slice a n c)) (hS : S (.int .i64 c) w) : OpR P env ⟨dst, .call ⟨.builtin .cap, #[x], #[T]⟩, ty, pos, af, gd⟩ w S :=
  .val (fun _ hm => by simp [execOp, resolve, invoke, builtin, hm.eval hx, Builtin.cap_, run_underlying U.h, goInt]) hS
theorem nD {a : Array Operand} {T : Array TypeId} (h : OpR P env ⟨dst, .call ⟨.builtin .cap, a, T⟩, ty, pos, af, gd⟩ w S) : OpR P env ⟨dst, .call ⟨.builtin .cap, a, T⟩, ty, pos, af, gd⟩ w S := h
theorem gB {t e sz n c q b o : Nat} {l : Int} {x y : Operand} [U : Und P t (.slice e)] [Z : Sz P e sz] (hx : ev env x = some (.slice (some ⟨b, o, none⟩) n c)) (hy : ev env y = some (.int .i64 l)) (hl : l = (q : Int)) (hq : q ≤ n) (hc : n ≤ c) (hqc : q < c) (hS : S (.slice (some ⟨b, o + q * sz, none⟩) (n - q) (c - q)) w) :
    OpR P env ⟨dst, .slice t x (some y) none none, ty, pos, af, gd⟩ w S := by
  subst hl
  refine eH (kl := .i64) (kh := .i64) (km := .i64) (a' := some ⟨b, o + q * sz, none⟩) (l := (q : Nat)) (m := c) (h := (n : Nat)) hx (.inr ⟨_, rfl, hy⟩) (.inl ⟨rfl, rfl, rfl⟩) (.inl ⟨rfl, rfl⟩) (by omega) (by omega) (by omega) (by omega) (by rw [if_neg (by omega)]; simp [eA]) ?_
  rw [show ((n : Int) - (q : Int)).toNat = n - q by omega, show ((c : Int) - (q : Int)).toNat = c - q by omega]
  exact hS
theorem eS {t e sz n c q : Nat} {a : Option Addr} {l : Int} {x y : Operand} [U : Und P t (.slice e)] [Z : Sz P e sz] (hx : ev env x = some (.slice a n c)) (hy : ev env y = some (.int .i64 l)) (hl : l = (q : Int)) (hq : q ≤ c) (hS : S (.slice a q c) w) :
    OpR P env ⟨dst, .slice t x none (some y) none, ty, pos, af, gd⟩ w S := by
  subst hl
  refine eH (kl := .i64) (kh := .i64) (km := .i64) (a' := a) (m := c) (h := (q : Nat)) hx (.inl ⟨rfl, rfl⟩) (.inr ⟨_, rfl, hy⟩) (.inl ⟨rfl, rfl⟩) (by omega) (by omega) (by omega) (by omega) ?_ ?_
  · split
    · rfl
    · rw [show Int.toNat 0 * sz = 0 by simp]
      cases a with
      | none => rfl
      | some a => cases a; rfl
  · rw [Int.sub_zero, Int.sub_zero, Int.toNat_natCast, Int.toNat_natCast]
    exact hS
theorem uZ {A zs U D : List Value} {p q : Nat} (hp : A.length = p) (hu : U.length = 2) (hq : q = p + 2) (hz : zs.length = D.length + 2) : bQ (bQ (A ++ zs) p U) q D = A ++ U ++ D := by
  subst hp hq
  have e1 : bQ (A ++ zs) A.length U = A ++ U ++ zs.drop 2 := by
    unfold bQ
    rw [List.take_left, hu, ← List.drop_drop, List.drop_left]
  rw [e1]
  unfold bQ
  have e2 : A.length + 2 = (A ++ U).length := by rw [List.length_append, hu]
  rw [e2, List.take_left, ← List.drop_drop, List.drop_left, List.drop_of_length_le (by rw [List.length_drop]; omega), List.append_nil]
theorem rP {X ys U : List Value} {p q : Nat} (hp : p ≤ X.length) (hu : U.length = 2) (hq : q = p + 2) (hy : ys.length = 2) : bQ (bQ (X ++ ys) q (X.drop p)) p U = X.take p ++ U ++ X.drop p := by
  subst hq
  have e1 : bQ (X ++ ys) (p + 2) (X.drop p) = (X ++ ys).take (p + 2) ++ X.drop p := by
    unfold bQ
    rw [List.drop_of_length_le (l := X ++ ys) (by rw [List.length_append, List.length_drop]; omega), List.append_nil]
  rw [e1]
  unfold bQ
  have hl : ((X ++ ys).take (p + 2)).length = p + 2 := by rw [List.length_take, List.length_append]; omega
  rw [List.take_append_of_le_length (by omega), List.take_take, Nat.min_eq_left (by omega), List.take_append_of_le_length hp, hu, List.drop_append_of_le_length (by omega), List.drop_of_length_le (l := (X ++ ys).take (p + 2)) (by omega), List.nil_append]
end
end Go.Eng
end
section
namespace Go.Eng
open Go.RowKit
section
variable {P : Program} {env : Env} {w0 w w' : World} {F : Nat → Prop} {L L' : List HP} {dst : Option Tmp} {ty : TypeId} {pos : String} {af : Array Edge} {gd : Option (Nat × Bool)} {S : Value → World → Prop}
theorem tX {t t' e e' : Nat} {sz by_ : Nat} {z : Value} {a ax : Option Addr} {n c m cx : Nat} {xs news : List Value} {x y : Operand} [U : Und P t (.slice e)] [U' : Und P t' (.slice e')] [Z : Sz P e sz] [B : Byt P e by_] [Zr : Zer P e z]
    (hs : St w0 F w L) (hx : ev env x = some (.slice a n c)) (hy : ev env y = some (.slice ax m cx)) (hbs : Src w a n sz xs) (hbp : 0 < n → iK a) (hsrc : Src w ax m sz news) (hp : 0 < m → iK ax) (hg : c < n + m) (hz : z.cells.size = sz) (hb : (n + m) * by_ ≤ 140737488355328) (h63 : n + m ≤ maxLen) :
    OpR P env ⟨dst, .call ⟨.builtin .append, #[x, y], #[t, t']⟩, ty, pos, af, gd⟩ w (fun v w' => ∃ b c', v = .slice (some ⟨b, 0, none⟩) (n + m) c' ∧ St w0 F w' (Row (some ⟨b, 0, none⟩) (n + m) c' e sz (xs ++ news) :: L) ∧ Ext w w') := by
  obtain ⟨i, hi, hi1, hi2, hi3⟩ := nY (P := P) (e := e) (sz := sz) (by_ := by_) (z := z)
  have hl := hbs.1
  have hlx := hsrc.1
  have hsrc1 : (Builtin.lenOf (.slice ax m cx)).run P w = .ok m w := rfl
  have hroom : ¬ n + m ≤ c := by omega
  have h48 : Builtin.nextslicecap (n + m) c * i.bytes ≤ 281474976710656 := growslice_fits hg (by rw [hi2]; exact hb)
  have h63' : ¬ (9223372036854775807 < (n : Int) + m) := by simp only [maxLen] at h63; omega
  have mv : ∀ {A : Option Addr} {N : Nat} {V : List Value} (w' : World), w'.heap = w.heap → Src w A N sz V → Src w' A N sz V := fun w' hw' h => ⟨h.1, h.2.1, h.2.2.1, fun b o hbo j u hj => by
    have := h.2.2.2 b o hbo j u hj
    simpa [World.cell?, hw'] using this⟩
  have hrun : (Builtin.append_ #[t, t'] ty #[.slice a n c, .slice ax m cx]).run P w = .ok (.slice (some ⟨w.heap.size, 0, none⟩) (n + m) (grownCap w (n + m) c e))
      (w.drew.alloc (.cells (xs.toArray ++ news.toArray ++ Builtin.zeroCells z.cells (grownCap w (n + m) c e - (n + m))) e)) := by
    have q1 := eF (P := P) (l := n) (c := c) (mv w.drew rfl hbs) hbp
    have q2 := eF (P := P) (l := m) (c := cx) (mv w.drew rfl hsrc) hp
    have hnb : ¬ (Builtin.nextslicecap (n + m) c * i.bytes > 2 ^ 48) := by omega
    simp [Builtin.append_, run_underlying U.h, run_underlying U'.h, sizeOf, typeInfo, zeroValue, hi, hi1, hi3, Builtin.lenOf, hroom, hnb, h63', Question.forced, q1, q2, newRow, grownCap]
    rw [← Array.append_assoc]; simp only [List.append_toArray]
  have hge := grownCap_ge w (n + m) c e
  have hcm' : grownCap w (n + m) c e ≤ maxLen := grownCap_le_maxLen w (n + m) c e h63
  have hF : Fresh w (w.drew.alloc (.cells (xs.toArray ++ news.toArray ++ Builtin.zeroCells z.cells (grownCap w (n + m) c e - (n + m))) e)) [Row (some ⟨w.heap.size, 0, none⟩) (n + m) (grownCap w (n + m) c e) e sz (xs ++ news)] := by
    refine ⟨⟨rfl, rfl, rfl, by simp, fun k hk => (by first | exact heap_alloc_old w.drew _ hk | exact heap_alloc_old w.drew _ _ hk), Nat.le_succ _⟩, fun d hd => ?_, fun d hd k hk => ?_, List.pairwise_singleton _ _⟩
    · rw [List.mem_singleton.1 hd]
      refine ⟨by rw [List.length_append, hl, hlx, Nat.add_mul], hge, hcm', .inr ⟨w.heap.size, 0, _, rfl, heap_alloc_new w.drew _, ?_, ?_⟩⟩
      · simp only [Array.size_append, List.size_toArray, size_zeroCells, hz, hl, hlx, Nat.zero_add, ← Nat.add_mul]
        apply Nat.le_of_eq
        congr 1
        omega
      · simp only [Array.toList_append, List.drop_zero]
        have : (n + m) * sz = (xs ++ news).length := by rw [List.length_append, hl, hlx, Nat.add_mul]
        rw [this]
        exact List.take_left
    · rw [List.mem_singleton.1 hd] at hk
      have hk : w.heap.size = k := by simpa [Row, dN] using hk
      subst hk
      exact ⟨Nat.le_refl _, by simp⟩
  obtain ⟨W', hW'⟩ : ∃ W', W' = w.drew.alloc (.cells (xs.toArray ++ news.toArray ++ Builtin.zeroCells z.cells (grownCap w (n + m) c e - (n + m))) e) := ⟨_, rfl⟩
  rw [← hW'] at hrun hF
  refine .val (w' := W') (v := .slice (some ⟨w.heap.size, 0, none⟩) (n + m) (grownCap w (n + m) c e)) (fun _ hm => by simp [execOp, resolve, invoke, builtin, hm.eval hx, hm.eval hy, hrun]) ?_
  have hs2 := hs.fresh hF
  rw [List.singleton_append] at hs2
  exact ⟨w.heap.size, _, rfl, hs2, hF.ext⟩
end
end Go.Eng
end
section
namespace Go.Eng
open Go.Proofs
set_option linter.unusedSimpArgs false
set_option linter.unusedVariables false
abbrev dId : Ty Int := tInt .u64
abbrev cId (x : Int) : List Value := [.int .u64 x]
abbrev okId (x : Int) : Prop := inK .u64 x
abbrev RowU (a : Option Addr) (n c : Nat) (xs : List Int) : HP := Row a n c 29 1 (encL cId xs)
theorem slU {w0 w : World} {F : Nat → Prop} {L : List HP} {a : Option Addr} {n c : Nat} {xs : List Int} (hs : St w0 F w L) (hm : RowU a n c xs ∈ L) (hok : ∀ x ∈ xs, okId x) : Sl dId All w a n c xs :=
  (RowV.slF (d := dId) (hs.all _ hm) (by decide) hok).weak (fun _ _ => trivial)
theorem mO {R : Nat → Prop} {w : World} {a : Option Addr} {n c : Nat} {xs : List Int} (h : Sl dId R w a n c xs) : ∀ x ∈ xs, okId x := fun x hx => by
  obtain ⟨k, hk⟩ := List.mem_iff_getElem?.1 hx
  exact (h.elF hk).1
theorem nZ {l : List Int} {x : Int} {k : Nat} (h : l[k]? = some x) : l.getD k 0 = x := by rw [List.getD_eq_getElem?_getD, h]; rfl
abbrev iO (l : List Int) : Prop := l.Pairwise (· < ·)
theorem adjT {l : List Int} (h : ∀ i (hi : i + 1 < l.length), l[i] < l[i + 1]) : iO l := by
  refine List.pairwise_iff_getElem.2 fun i j hi hj hij => ?_
  induction j with
  | zero => omega
  | succ j ih =>
    by_cases e : i = j
    · subst e; exact h i hj
    · exact Int.lt_trans (ih (by omega) (by omega)) (h j hj)
theorem typeB_iff {l : List Int} : dR l = true ↔ l.length ≤ 12 ∧ iO l ∧ ∀ x ∈ l, mayM x = true := by
  rw [typeB_true]
  constructor
  · rintro ⟨h1, h2⟩
    refine ⟨h1, adjT fun i hi => ?_, fun x hx => ?_⟩
    · have := h2 (i + 1) hi
      unfold okAt at this
      rw [Bool.and_eq_true, Bool.or_eq_true, decide_eq_true_eq, decide_eq_true_eq] at this
      have h3 := this.2.resolve_left (by omega)
      rw [Nat.add_sub_cancel, nZ (List.getElem?_eq_getElem (by omega)), nZ (List.getElem?_eq_getElem hi)] at h3
      exact h3
    · obtain ⟨i, hi⟩ := List.mem_iff_getElem?.1 hx
      have := h2 i (List.getElem?_eq_some_iff.1 hi).1
      unfold okAt at this
      rw [Bool.and_eq_true, nZ hi] at this
      exact this.1
  · rintro ⟨h1, h2, h3⟩
    refine ⟨h1, fun i hi => ?_⟩
    unfold okAt
    rw [Bool.and_eq_true, Bool.or_eq_true, decide_eq_true_eq, decide_eq_true_eq, nZ (List.getElem?_eq_getElem hi)]
    refine ⟨h3 _ (List.getElem_mem hi), ?_⟩
    by_cases e : i = 0
    · exact .inl e
    · refine .inr ?_
      rw [nZ (List.getElem?_eq_getElem (by omega : i - 1 < l.length))]
      exact List.pairwise_iff_getElem.1 h2 (i - 1) i (by omega) hi (by omega)
theorem iA : ∀ {l1 l2 : List Int}, iO l1 → iO l2 → (∀ x, x ∈ l1 ↔ x ∈ l2) → l1 = l2
  | [], [], _, _, _ => rfl
  | [], y :: ys, _, _, h => absurd ((h y).2 List.mem_cons_self) (by simp)
  | x :: xs, [], _, _, h => absurd ((h x).1 List.mem_cons_self) (by simp)
  | x :: xs, y :: ys, h1, h2, h => by
    rw [iO, List.pairwise_cons] at h1 h2
    have e : x = y := by
      rcases List.mem_cons.1 ((h x).1 List.mem_cons_self) with e | e
      · exact e
      · rcases List.mem_cons.1 ((h y).2 List.mem_cons_self) with e2 | e2
        · exact e2.symm
        · have a1 := h2.1 x e
          have a2 := h1.1 y e2
          omega
    subst e
    congr 1
    refine iA h1.2 h2.2 fun z => ?_
    constructor
    · intro hz
      rcases List.mem_cons.1 ((h z).1 (List.mem_cons_of_mem _ hz)) with e | e
      · have := h1.1 z hz; omega
      · exact e
    · intro hz
      rcases List.mem_cons.1 ((h z).2 (List.mem_cons_of_mem _ hz)) with e | e
      · have := h2.1 z hz; omega
      · exact e
def wiT (l : List Int) (id : Int) : List Int := l.filter (fun x => decide (x < id)) ++ id :: l.filter (fun x => decide (id < x))
def insT (l : List Int) (id : Int) : List Int := if id ∈ l then l else wiT l id
def outT (l : List Int) (id : Int) : List Int := l.filter fun x => decide (x ≠ id)
theorem wiT_mem {l : List Int} {id x : Int} : x ∈ wiT l id ↔ x = id ∨ x ∈ l := by
  unfold wiT
  rw [List.mem_append, List.mem_cons, List.mem_filter, List.mem_filter, decide_eq_true_eq, decide_eq_true_eq]
  constructor
  · rintro (h | h | h)
    · exact .inr h.1
    · exact .inl h
    · exact .inr h.1
  · rintro (h | h)
    · exact .inr (.inl h)
    · rcases Int.lt_trichotomy x id with e | e | e
      · exact .inl ⟨h, e⟩
      · exact .inr (.inl e)
      · exact .inr (.inr ⟨h, e⟩)
theorem pR {l : List Int} {id : Int} (h : iO l) : iO (wiT l id) := by
  unfold wiT iO
  rw [List.pairwise_append, List.pairwise_cons]
  refine ⟨h.sublist List.filter_sublist, ⟨fun x hx => of_decide_eq_true (List.mem_filter.1 hx).2, h.sublist List.filter_sublist⟩, fun x hx y hy => ?_⟩
  have h1 : x < id := of_decide_eq_true (List.mem_filter.1 hx).2
  rcases List.mem_cons.1 hy with e | e
  · omega
  · have h2 : id < y := of_decide_eq_true (List.mem_filter.1 e).2
    omega
theorem wiT_self {l : List Int} {id : Int} (h : iO l) (hm : id ∈ l) : wiT l id = l := iA (pR h) h fun x => by
  rw [wiT_mem]
  exact ⟨fun e => e.elim (fun e => e ▸ hm) (fun e => e), .inr⟩
theorem nX {l : List Int} {id : Int} (h : iO l) : insT l id = wiT l id := by
  unfold insT
  by_cases e : id ∈ l
  · rw [if_pos e, wiT_self h e]
  · rw [if_neg e]
theorem insT_mem {l : List Int} {id x : Int} : x ∈ insT l id ↔ x = id ∨ x ∈ l := by
  unfold insT
  by_cases e : id ∈ l
  · rw [if_pos e]; exact ⟨.inr, fun h => h.elim (fun h => h ▸ e) (fun h => h)⟩
  · rw [if_neg e, wiT_mem]
theorem outT_mem {l : List Int} {id x : Int} : x ∈ outT l id ↔ x ∈ l ∧ x ≠ id := by unfold outT; rw [List.mem_filter, decide_eq_true_eq]
theorem nQ {l : List Int} {id : Int} (h : iO l) : iO (outT l id) := h.sublist List.filter_sublist
theorem outT_len (l : List Int) (id : Int) : (outT l id).length ≤ l.length := List.length_filter_le _ _
theorem nF {l : List Int} {id : Int} (hn : id ∉ l) : (wiT l id).length = l.length + 1 := by
  unfold wiT
  rw [List.length_append, List.length_cons]
  have h : ∀ l : List Int, id ∉ l → (l.filter (fun x => decide (x < id))).length + (l.filter (fun x => decide (id < x))).length = l.length := by
    intro l
    induction l with
    | nil => intro _; rfl
    | cons y l ih =>
      intro hn
      have h1 : y ≠ id := fun e => hn (e ▸ List.mem_cons_self)
      have h2 := ih (fun h => hn (List.mem_cons_of_mem _ h))
      rw [List.filter_cons, List.filter_cons, List.length_cons]
      by_cases e : y < id
      · rw [if_pos (decide_eq_true e), if_neg (by simp; omega), List.length_cons]; omega
      · rw [if_neg (by simpa using e), if_pos (decide_eq_true (by omega)), List.length_cons]; omega
  have := h l hn
  omega
theorem insT_len (l : List Int) (id : Int) : (insT l id).length ≤ l.length + 1 := by
  unfold insT
  by_cases e : id ∈ l
  · rw [if_pos e]; omega
  · rw [if_neg e, nF e]; omega
structure CutI (l : List Int) (id : Int) (i : Nat) : Prop where
  le : i ≤ l.length
  lo : ∀ j x, l[j]? = some x → j < i → x < id
  hi : ∀ j x, l[j]? = some x → i ≤ j → id ≤ x
theorem CutI.take {l : List Int} {id : Int} {i : Nat} (h : CutI l id i) : l.take i = l.filter (fun x => decide (x < id)) := by
  conv => rhs; rw [← List.take_append_drop i l]
  rw [List.filter_append, List.filter_eq_self.2, List.filter_eq_nil_iff.2, List.append_nil]
  · intro x hx
    obtain ⟨j, hj⟩ := List.mem_iff_getElem?.1 hx
    rw [List.getElem?_drop] at hj
    have := h.hi _ x hj (by omega)
    simp; omega
  · intro x hx
    obtain ⟨j, hj⟩ := List.mem_iff_getElem?.1 hx
    have hji : j < i := by have := (List.getElem?_eq_some_iff.1 hj).1; rw [List.length_take] at this; omega
    rw [List.getElem?_take_of_lt hji] at hj
    exact decide_eq_true (h.lo _ x hj hji)
theorem CutI.drop {l : List Int} {id : Int} {i : Nat} (h : CutI l id i) : l.drop i = l.filter (fun x => decide (id ≤ x)) := by
  conv => rhs; rw [← List.take_append_drop i l]
  rw [List.filter_append, List.filter_eq_nil_iff.2, List.filter_eq_self.2, List.nil_append]
  · intro x hx
    obtain ⟨j, hj⟩ := List.mem_iff_getElem?.1 hx
    rw [List.getElem?_drop] at hj
    exact decide_eq_true (h.hi _ x hj (by omega))
  · intro x hx
    obtain ⟨j, hj⟩ := List.mem_iff_getElem?.1 hx
    have hji : j < i := by have := (List.getElem?_eq_some_iff.1 hj).1; rw [List.length_take] at this; omega
    rw [List.getElem?_take_of_lt hji] at hj
    have := h.lo _ x hj hji
    simp; omega
theorem CutI.there {l : List Int} {id : Int} {i : Nat} (h : CutI l id i) (hr : iO l) : id ∈ l ↔ l[i]? = some id := by
  constructor
  · intro hm
    obtain ⟨j, hj⟩ := List.mem_iff_getElem?.1 hm
    have hjl := (List.getElem?_eq_some_iff.1 hj).1
    have hij : i ≤ j := Decidable.by_contra fun e => by have := h.lo j id hj (by omega); omega
    by_cases e : i = j
    · subst e; exact hj
    · have hi : l[i]? = some (l[i]'(by omega)) := List.getElem?_eq_getElem (by omega)
      have h1 := h.hi i _ hi (Nat.le_refl _)
      have h2 := List.pairwise_iff_getElem.1 hr i j (by omega) hjl (by omega)
      rw [(List.getElem?_eq_some_iff.1 hj).2] at h2
      omega
  · exact List.mem_of_getElem?
theorem cut_ins {l : List Int} {id : Int} {i : Nat} (h : CutI l id i) (hn : id ∉ l) : l.take i ++ [id] ++ l.drop i = wiT l id := by
  unfold wiT
  rw [h.take, h.drop, List.append_assoc]
  congr 1
  show id :: _ = _
  congr 1
  refine List.filter_congr fun x hx => ?_
  rw [decide_eq_decide]
  have : x ≠ id := fun e => hn (e ▸ hx)
  omega
theorem yM {l : List Int} {id : Int} {i : Nat} (h : CutI l id i) (hr : iO l) (hm : id ∈ l) : l.take i ++ l.drop (i + 1) = outT l id := by
  have hi := (h.there hr).1 hm
  have hil := (List.getElem?_eq_some_iff.1 hi).1
  have hd : l.drop i = id :: l.drop (i + 1) := by rw [List.drop_eq_getElem_cons hil, (List.getElem?_eq_some_iff.1 hi).2]
  have hr2 : iO (l.take i ++ l.drop (i + 1)) := by
    refine hr.sublist ?_
    conv => rhs; rw [← List.take_append_drop i l, hd]
    exact List.Sublist.append_left (List.sublist_cons_self _ _) _
  refine iA hr2 (nQ hr) fun x => ?_
  rw [outT_mem, List.mem_append]
  have hall : x ∈ l ↔ x ∈ l.take i ∨ x = id ∨ x ∈ l.drop (i + 1) := by
    conv => lhs; rw [← List.take_append_drop i l, hd]
    rw [List.mem_append, List.mem_cons]
  constructor
  · rintro (e | e)
    · have h1 : x < id := by rw [h.take] at e; exact of_decide_eq_true (List.mem_filter.1 e).2
      exact ⟨hall.2 (.inl e), by omega⟩
    · have h2 : iO (id :: l.drop (i + 1)) := hd ▸ hr.sublist (List.drop_sublist _ _)
      have := (List.pairwise_cons.1 h2).1 x e
      exact ⟨hall.2 (.inr (.inr e)), by omega⟩
  · rintro ⟨e1, e2⟩
    rcases hall.1 e1 with e | e | e
    · exact .inl e
    · exact absurd e e2
    · exact .inr e
def hM (l : List Int) (id : Int) : Int := if dR l then (if mayM id then (if 12 < (insT l id).length then 6 else 0) else 2) else 130
def outC (l : List Int) (id : Int) : Int := if dR l then (if id ∈ l then 0 else 4) else 130
def gG (l : List Int) (id : Int) : List Int := if hM l id = 0 then insT l id else []
def outL (l : List Int) (id : Int) : List Int := if outC l id = 0 then outT l id else []
def hasT (l : List Int) (id : Int) : Bool := dR l && decide (id ∈ l)
end Go.Eng
end
section
namespace Go.Eng
open Go.Proofs
set_option linter.unusedSimpArgs false
set_option linter.unusedVariables false
def idX (xs : List Int) (i : Nat) (vals : List Value) (cx : List HP) : Prop := ∃ x, xs[i]? = some x ∧ vals = [.int .u64 x] ∧ cx = []
theorem iF {xs vs : List Value} (sz : Nat) (h : vs.length = xs.length) : bQ xs (0 * sz) vs = vs := by
  unfold bQ
  rw [Nat.zero_mul, List.take_zero, List.nil_append, Nat.zero_add, h, List.drop_length, List.append_nil]
theorem uL (xs : List Int) : (encL cId xs).length = xs.length := by have := eW (d := dId) xs; rw [this]; exact Nat.mul_one _
theorem encI_one (xs : List Int) : ∀ u ∈ encL cId xs, u.oneCell' = true := fun u hu => by
  obtain ⟨x, _, hx⟩ := List.mem_flatMap.1 hu
  rw [List.mem_singleton.1 hx]; rfl
theorem sB (xs : List Int) (i : Nat) : (encL cId xs).take i = encL cId (xs.take i) := by have := iI (d := dId) xs i; rw [show i * (dId).sz = i from Nat.mul_one i] at this; exact this.symm
theorem sC (xs : List Int) (i : Nat) : (encL cId xs).drop i = encL cId (xs.drop i) := by have := lV (d := dId) xs i; rw [show i * (dId).sz = i from Nat.mul_one i] at this; exact this.symm
theorem iT {α : Type} {l : List α} {k : Nat} {x : α} (p : α → Bool) (hx : l[k]? = some x) : (l.take (k + 1)).filter p = (l.take k).filter p ++ if p x then [x] else [] := by
  rw [List.take_add_one, hx, List.filter_append]
  congr 1
  by_cases c : p x = true
  · rw [if_pos c]; simp [c]
  · rw [if_neg c]; simp [c]
theorem slOldI {R : Nat → Prop} {w : World} {a : Option Addr} {n c : Nat} {l : List Int} (h : Sl dId R w a n c l) : Sl dId (fun k => k < w.heap.size) w a n c l :=
  h.foc.weak (fun k hk => Sl.below (d := dId) (by decide) h k hk)
theorem srcCut {w : World} {b o m i : Nat} {sz : Nat} {xs ys : List Value} {n : Nat} (h : Src w (some ⟨b, o, none⟩) n sz xs) (hy : ys = (xs.drop (i * sz)).take (m * sz)) (hi : i + m ≤ n) : Src w (some ⟨b, o + i * sz, none⟩) m sz ys := by
  obtain ⟨h1, _, h3, h4⟩ := h
  have hm : i * sz + m * sz ≤ n * sz := by rw [← Nat.add_mul]; exact Nat.mul_le_mul_right _ hi
  refine ⟨?_, (fun e => nomatch e), fun u hu => ?_, fun b' o' hb j u hj => ?_⟩
  · rw [hy, List.length_take, List.length_drop]; omega
  · rw [hy] at hu; exact h3 u (List.mem_of_mem_drop (List.mem_of_mem_take hu))
  · cases hb
    rw [hy, List.getElem?_take] at hj
    split at hj
    · rw [List.getElem?_drop] at hj
      have := h4 b o rfl _ u hj
      rw [Nat.add_assoc]; exact this
    · cases hj
theorem srcTakeS {w : World} {a : Option Addr} {n i sz : Nat} {xs : List Value} (h : Src w a n sz xs) (hp : 0 < n → iK a) (hi : i ≤ n) : Src w a i sz (xs.take (i * sz)) ∧ (0 < i → iK a) := by
  have hm : i * sz ≤ n * sz := Nat.mul_le_mul_right _ hi
  refine ⟨⟨by rw [List.length_take, h.1]; omega, fun e => by have := h.2.1 e; omega, fun u hu => h.2.2.1 u (List.mem_of_mem_take hu), fun b o hb j u hj => ?_⟩, fun h0 => hp (by omega)⟩
  rw [List.getElem?_take] at hj
  split at hj
  · exact h.2.2.2 b o hb j u hj
  · cases hj
theorem srcDropS {w : World} {a a2 : Option Addr} {n c i sz : Nat} {xs : List Value} (h : Src w a n sz xs) (hp : 0 < n → iK a) (hi : i ≤ n) (hnc : n ≤ c) (ha : (if ((c : Nat) : Int) = ((i : Nat) : Int) then a else a.map (·.add (((i : Nat) : Int).toNat * sz))) = a2) : Src w a2 (n - i) sz (xs.drop (i * sz)) ∧ (0 < n - i → iK a2) := by
  by_cases e : i = n
  · subst e
    rw [List.drop_of_length_le (by rw [h.1]; exact Nat.le_refl _), Nat.sub_self]
    refine ⟨⟨by simp, fun _ => rfl, (fun u hu => by cases hu), fun b o _ j u hj => by simp at hj⟩, fun h => absurd h (Nat.lt_irrefl 0)⟩
  · obtain ⟨ad, rfl⟩ : ∃ ad, a = some ad := by
      cases a with
      | none => exact absurd (h.2.1 rfl) (by omega)
      | some ad => exact ⟨_, rfl⟩
    have hs : ad.spot = none := hp (by omega) _ rfl
    obtain ⟨b, o, s⟩ := ad
    have hs : s = none := hs
    subst hs
    rw [if_neg (by omega)] at ha
    have e2 : a2 = some ⟨b, o + i * sz, none⟩ := by rw [← ha]; simp [eA]
    subst e2
    refine ⟨srcCut h ?_ (by omega), fF⟩
    rw [List.take_of_length_le]
    rw [List.length_drop, h.1, Nat.sub_mul]
    exact Nat.le_refl _
attribute [local irreducible] Hold J JL JD JX JXat OpR OpG Ret RetV Is Blk Row
set_option maxRecDepth 100000
set_option maxHeartbeats 1000000
theorem uG (w : World) (x y : Int) : Ret Tryz.prog 224 #[.int .u64 x, .int .u64 y] w fun v w' => v = .bool (decide (x < y)) ∧ Ext w w' := by
  refine cG (l := [_, _]) Tryz.func224 rfl Tryz.ntmps224 (by simp) ?_
  have hs := St.init w
  repeat' (first | ((apply aW 199; refine JL_o (by exact aC en199 rfl (qL _ x)) rfl rfl ?_; rintro _ _ ⟨rfl, hE⟩; have hs := hs.ext hE; (try simp only [zcc] at hs))) | (apply aR) | ((first | (apply aI) | (apply bX; exact rfl; exact gb)); (first | (apply aQ; exact aH rfl aA) | (apply aF; exact aB rfl aA) | (apply aK; exact aM rfl rfl rfl aA) | (apply cF; exact bO rfl gb rfl aA)); first | (exact rfl; exact rfl) | exact rfl) | (apply bB) | (apply aG) | (apply cW; (refine fM rfl gb rfl ?_)))
  refine aY Tryz.func224 rfl (.tmp rfl .nil) ⟨rfl, hs.frm.ext⟩
theorem snanId_r (w : World) (x : Int) : Ret Tryz.prog 225 #[.int .u64 x] w fun v w' => v = .bool false ∧ Ext w w' := by
  refine cG (l := [_]) Tryz.func225 rfl Tryz.ntmps225 (by simp) ?_
  have hs := St.init w
  repeat' (first | (apply aR) | ((apply aI); (first | (apply aQ; exact aH rfl aA) | (apply aF; exact aB rfl aA) | (apply aK; exact aM rfl rfl rfl aA)); first | (exact rfl; exact rfl) | exact rfl) | (apply bB) | (apply aG))
  refine aY Tryz.func225 rfl (.tmp rfl .nil) ⟨by simp [mF], hs.frm.ext⟩
theorem uO (w : World) (a : Option Addr) (n c : Nat) (xs : List Int) (x : Int) (h : Sl dId All w a n c xs) (hr : iO xs) (hn : n ≤ 1000000) :
    Ret Tryz.prog 174 #[.slice a n c, .int .u64 x] w fun v w' => ∃ i : Nat, CutI xs x i ∧ v = .tuple #[.int .i64 i, .bool (decide (x ∈ xs))] ∧ Ext w w' := by
  refine cG (l := [_, _]) Tryz.func174 rfl Tryz.ntmps174 (by simp) ?_
  have hs := St.init w
  have hl := h.len
  repeat' (first | (apply aR) | ((apply aI); (first | (apply aQ; exact aH rfl aA) | (apply aF; exact aB rfl aA) | (apply bL; exact bY rfl aA)); first | (exact rfl; exact rfl) | exact rfl) | (apply bB) | (apply aG) | (apply bC))
  refine dG (α := Nat × Nat) [(0, _), (1, _), (6, _)] (fun g => [(7, .int .i64 g.1), (8, .int .i64 g.2)]) (fun g w' => St w NoF w' [] ∧ g.1 ≤ g.2 ∧ g.2 ≤ n ∧ (∀ j y, xs[j]? = some y → j < g.1 → y < x) ∧ (∀ j y, xs[j]? = some y → g.2 ≤ j → x ≤ y)) (fun g => g.2 - g.1) (0, n) ⟨hs, Nat.zero_le _, Nat.le_refl _, (fun j y _ hj => absurd hj (Nat.not_lt_zero _)), (fun j y hy hj => by have := (List.getElem?_eq_some_iff.1 hy).1; dsimp only at hj; omega)⟩ zss ?_
  rintro ⟨i, j⟩ w2 ⟨hs1, hij, hjn, hlo_, hhi⟩ ih
  dsimp only at hs1 hij hjn hlo_ hhi ih ⊢
  by_cases hlt : i < j
  · obtain ⟨p, o, rfl⟩ := h.sl.addr (by omega)
    have hs : St w NoF w2 [] := hs1
    obtain ⟨m, hm_⟩ : ∃ m, m = (i + j) / 2 := ⟨_, rfl⟩
    have hmi : i ≤ m := by omega
    have hmj : m < j := by omega
    have hmv : ((i : Int) + (j : Int)) / 2 = (m : Int) := by omega
    have hy : xs[m]? = some (xs[m]'(by omega)) := List.getElem?_eq_getElem (by omega)
    obtain ⟨y, hyd⟩ : ∃ y, y = xs[m]'(by omega) := ⟨_, rfl⟩
    rw [← hyd] at hy
    have hmono : ∀ (p q : Nat) (u v : Int), xs[p]? = some u → xs[q]? = some v → p < q → u < v := fun p q u v hu hv hpq => by
      have := List.pairwise_iff_getElem.1 hr p q (List.getElem?_eq_some_iff.1 hu).1 (List.getElem?_eq_some_iff.1 hv).1 hpq
      rwa [(List.getElem?_eq_some_iff.1 hu).2, (List.getElem?_eq_some_iff.1 hv).2] at this
    by_cases hc : y < x
    · repeat' (first | ((apply aW 224; refine JL_o (by exact aC en224 rfl (uG _ y x)) rfl rfl ?_; rintro _ _ ⟨rfl, hE⟩; have hs := hs.ext hE; (try simp only [zcc] at hs))) | (apply aR) | ((apply aI); (first | (apply aV; exact bU (i := m) (j := 0) (h.st hs) hy rfl rfl rfl aA) | (apply aK; exact mL (n := 1) rfl rfl (by decide) rfl (by rw [show ((i : Int) + (j : Int)) / 2 ^ 1 = (m : Int) from hmv]; exact aA)) | (apply aQ; exact aH rfl aA) | (apply aF; exact aB rfl aA) | (apply cJ; exact bR rfl rfl (by omega) (by first | (simp only [Int.reduceAdd]; exact rfl) | exact rfl) aA) | (apply aK; exact aM rfl rfl rfl aA) | (apply fO; first | exact gK rfl (by omega) aA | exact gE rfl (by omega) aA) | (apply aO; exact aN rfl rfl (by omega) (by omega) aA)); first | (exact rfl; exact rfl) | exact rfl) | (apply bB) | (apply aG) | (apply bC) | (apply bN) | (apply bJ) | (apply aS; refine bF rfl ob ?_))
      refine ih (m + 1, j) _ _ ⟨hs, by show m + 1 ≤ j; omega, hjn, fun q u hu hq => ?_, hhi⟩ (by show j - (m + 1) < j - i; omega) zss
      by_cases e : q = m
      · subst e; rw [hy] at hu; cases hu; exact hc
      · have := hmono q m u y hu hy (by dsimp only at hq; omega); omega
    · repeat' (first | ((apply aW 224; refine JL_o (by exact aC en224 rfl (uG _ y x)) rfl rfl ?_; rintro _ _ ⟨rfl, hE⟩; have hs := hs.ext hE; (try simp only [zcc] at hs))) | (apply aR) | ((apply aI); (first | (apply aV; exact bU (i := m) (j := 0) (h.st hs) hy rfl rfl rfl aA) | (apply aK; exact mL (n := 1) rfl rfl (by decide) rfl (by rw [show ((i : Int) + (j : Int)) / 2 ^ 1 = (m : Int) from hmv]; exact aA)) | (apply aQ; exact aH rfl aA) | (apply aF; exact aB rfl aA) | (apply cJ; exact bR rfl rfl (by omega) (by first | (simp only [Int.reduceAdd]; exact rfl) | exact rfl) aA) | (apply aK; exact aM rfl rfl rfl aA) | (apply fO; first | exact gK rfl (by omega) aA | exact gE rfl (by omega) aA) | (apply aO; exact aN rfl rfl (by omega) (by omega) aA)); first | (exact rfl; exact rfl) | exact rfl) | (apply bB) | (apply aG) | (apply bC) | (apply bN) | (apply bJ) | (apply aS; first | refine bF rfl ob ?_ | refine bK rfl ob ?_))
      refine ih (i, m) _ _ ⟨hs, hmi, by show m ≤ n; omega, hlo_, fun q u hu hq => ?_⟩ (by show m - i < j - i; omega) zss
      by_cases e : q = m
      · subst e; rw [hy] at hu; cases hu; omega
      · have := hmono m q y u hy hu (by dsimp only at hq; omega); omega
  · have hs : St w NoF w2 [] := hs1
    have hij2 : i = j := by omega
    subst hij2
    have hcut : CutI xs x i := ⟨by omega, hlo_, hhi⟩
    by_cases hin : i < n
    · obtain ⟨p, o, rfl⟩ := h.sl.addr (by omega)
      have hs : St w NoF w2 [] := hs1
      have hy : xs[i]? = some (xs[i]'(by omega)) := List.getElem?_eq_getElem (by omega)
      obtain ⟨y, hyd⟩ : ∃ y, y = xs[i]'(by omega) := ⟨_, rfl⟩
      rw [← hyd] at hy
      by_cases hyx : y = x
      · have hm : x ∈ xs := hyx ▸ List.mem_of_getElem? hy
        repeat' (first | (apply aR) | ((first | (apply aI) | (apply bX; exact rfl; exact gb)); (first | (apply aV; exact bU (i := i) (j := 0) (h.st hs) hy rfl rfl rfl aA) | (apply aQ; exact aH rfl aA) | (apply aF; exact aB rfl aA) | (apply aK; exact aM rfl rfl rfl aA) | (apply cF; exact bW rfl gb rfl aA) | (apply aO; exact aN rfl rfl (by omega) (by omega) aA)); first | (exact rfl; exact rfl) | exact rfl) | (apply bB) | (apply aG) | (apply cI; refine cZ rfl ?_) | (apply cW; first | (refine uR rfl rfl ?_) | (refine fM rfl gb rfl ?_)) | (apply aS; refine bK rfl ob ?_))
        refine aY Tryz.func174 rfl (.tmp rfl (.tmp rfl .nil)) ⟨i, hcut, by rw [decide_eq_true hm]; rfl, hs.frm.ext⟩
      · have hm : x ∉ xs := fun hm => hyx (by have := (hcut.there hr).1 hm; rw [hy] at this; exact Option.some.inj this)
        repeat' (first | ((apply cN 225; refine cX rfl gb (by exact aC en225 rfl (snanId_r _ _)) rfl rfl ?_; rintro _ _ ⟨rfl, hE⟩; have hs := hs.ext hE; (try simp only [zcc] at hs))) | (apply aR) | ((first | (apply aI) | (apply bX; exact rfl; exact gb)); (first | (apply aV; exact bU (i := i) (j := 0) (h.st hs) hy rfl rfl rfl aA) | (apply aQ; exact aH rfl aA) | (apply aF; exact aB rfl aA) | (apply aK; exact aM rfl rfl rfl aA) | (apply cF; first | exact bW rfl gb rfl aA | exact bO rfl gb rfl aA) | (apply aO; exact aN rfl rfl (by omega) (by omega) aA)); first | (exact rfl; exact rfl) | exact rfl) | (apply bB) | (apply aG) | (apply cI; refine cZ rfl ?_) | (apply cW; (refine fM rfl gb rfl ?_)) | (apply aS; refine bK rfl ob ?_))
        refine aY Tryz.func174 rfl (.tmp rfl (.tmp rfl .nil)) ⟨i, hcut, by rw [decide_eq_false hm]; rfl, hs.frm.ext⟩
    · have hm : x ∉ xs := fun hm => by have := (List.getElem?_eq_some_iff.1 ((hcut.there hr).1 hm)).1; omega
      repeat' (first | (apply aR) | ((apply aI); (first | (apply aQ; exact aH rfl aA) | (apply aF; exact aB rfl aA) | (apply aK; exact aM rfl rfl rfl aA) | (apply cF; exact bO rfl gb rfl aA)); first | (exact rfl; exact rfl) | exact rfl) | (apply bB) | (apply aG) | (apply cI; refine cZ rfl ?_) | (apply cW; first | (refine uR rfl rfl ?_) | (refine fM rfl gb rfl ?_)) | (apply aS; refine bK rfl ob ?_))
      refine aY Tryz.func174 rfl (.tmp rfl (.tmp rfl .nil)) ⟨i, hcut, by rw [decide_eq_false hm]; rfl, hs.frm.ext⟩
theorem wK (w : World) (a : Option Addr) (n c : Nat) (xs : List Int) (h : Sl dId All w a n c xs) (hn : n ≤ 1000000) :
    Ret Tryz.prog 116 #[.slice a n c] w fun v w' => ∃ a', v = .slice a' n n ∧ Fresh w w' [RowU a' n n xs] := by
  refine cG (l := [_]) Tryz.func116 rfl Tryz.ntmps116 (by simp) ?_
  have hs := St.init w
  obtain ⟨hsrc, hpl, _⟩ := h.srcF
  have hl := h.len
  have hE0 : (encL cId xs).length = n := by rw [uL]; exact hl
  repeat' (first | ((apply aL (t := 6); refine JL_o (by apply eZ; exact iX hs rfl rfl (by omega) (by omega)) rfl rfl ?_; rintro _ _ ⟨b8, rfl, hb8, hs, hE⟩; have hs := hs.toRow 0 n n 1 (Nat.le_refl _) (by unfold maxLen; omega) (by simp [madeCells]) rfl)) | ((apply aL (t := 9); refine JL_o (by apply fW; exact fY (sz := 1) (off := 0) (vs := encL cId xs) (a := some ⟨b8, 0, none⟩) (n := n) (c := n) (by omega) hs rfl rfl (fun _ => rfl) (by omega) (by rw [Nat.min_self]; exact Src.st hsrc hs) (by rw [Nat.min_self]; exact hpl)) rfl rfl ?_; rintro _ _ ⟨rfl, hs, hF⟩; rw [iF 1 (by rw [hE0]; simp [madeCells])] at hs)) | (apply aR) | ((apply aI); (first | (apply aQ; exact aH rfl aA) | (apply aF; exact aB rfl aA) | (apply bL; exact bY rfl aA)); first | (exact rfl; exact rfl) | exact rfl) | (apply bB) | (apply aG))
  refine aY Tryz.func116 rfl (.tmp rfl .nil) ⟨_, rfl, hs.out (List.Sublist.refl _)⟩
theorem kP (w : World) (a : Option Addr) (n c : Nat) (xs : List Int) (h : Sl dId All w a n c xs) (hn : n ≤ 1000000) :
    Ret Tryz.prog 114 #[.slice a n c] w fun v w' => ∃ a', v = .slice a' n n ∧ Fresh w w' [RowU a' n n xs] := by
  refine cG (l := [_]) Tryz.func114 rfl Tryz.ntmps114 (by simp) ?_
  have hs := St.init w
  obtain ⟨hsrc, hpl, _⟩ := h.srcF
  have hl := h.len
  have hE0 : (encL cId xs).length = n := by rw [uL]; exact hl
  repeat' (first | ((apply aL (t := 6); refine JL_o (by apply eZ; exact iX hs rfl rfl (by omega) (by omega)) rfl rfl ?_; rintro _ _ ⟨b8, rfl, hb8, hs, hE⟩; have hs := hs.toRow 0 n n 1 (Nat.le_refl _) (by unfold maxLen; omega) (by simp [madeCells]) rfl)) | ((apply aL (t := 9); refine JL_o (by apply fW; exact fY (sz := 1) (off := 0) (vs := encL cId xs) (a := some ⟨b8, 0, none⟩) (n := n) (c := n) (by omega) hs rfl rfl (fun _ => rfl) (by omega) (by rw [Nat.min_self]; exact Src.st hsrc hs) (by rw [Nat.min_self]; exact hpl)) rfl rfl ?_; rintro _ _ ⟨rfl, hs, hF⟩; rw [iF 1 (by rw [hE0]; simp [madeCells])] at hs)) | (apply aR) | ((apply aI); (first | (apply aQ; exact aH rfl aA) | (apply aF; exact aB rfl aA) | (apply bL; exact bY rfl aA)); first | (exact rfl; exact rfl) | exact rfl) | (apply bB) | (apply aG))
  refine aY Tryz.func114 rfl (.tmp rfl .nil) ⟨_, rfl, hs.out (List.Sublist.refl _)⟩
theorem vW (w : World) (a : Option Addr) (n c k : Nat) (X : List Value) (hh : Held w [Row a n c 29 1 X]) (hk : k < n) (hn : n ≤ 1000000) (h1 : ∀ u ∈ X, u.oneCell' = true) :
    Ret Tryz.prog 175 #[.slice a n c, .int .i64 k, .int .i64 ((k : Int) + 1)] w fun v w' => v = .slice a (n - 1) c ∧ Turn w [Row a n c 29 1 X] w' [Row a (n - 1) c 29 1 (X.take (k * 1) ++ X.drop ((k + 1) * 1))] := by
  refine cG (l := [_, _, _]) Tryz.func175 rfl Tryz.ntmps175 (by simp) ?_
  have hs := hh.st
  have hrow := hs.row a n c
  have hl := hrow.len
  have hcap := hrow.2.1
  have hcm := hrow.2.2.1
  unfold maxLen at hcm
  obtain ⟨b, o, rfl⟩ := hrow.some (by omega)
  have hm : k + (n - (k + 1)) = n - 1 := by omega
  by_cases hcq : k + 1 < c
  · by_cases hkn : k + 1 < n
    · repeat' (first | ((apply aL (t := 13); refine aI (v := .slice (some ⟨b, o + k * 1, none⟩) 1 (n - k)) (by apply eC; exact eH (kl := .i64) (kh := .i64) (km := .i64) (a' := some ⟨b, o + k * 1, none⟩) (l := (k : Nat)) (h := (k : Int) + 1) (m := (n : Nat)) rfl (.inr ⟨_, rfl, rfl⟩) (.inr ⟨_, rfl, rfl⟩) (.inr ⟨_, rfl, rfl⟩) (by omega) (by omega) (by omega) (by omega) (by rw [if_neg (by omega)]; simp [eA]) (by rw [show ((k : Int) + 1 - (k : Int)).toNat = 1 by omega, show ((n : Int) - (k : Int)).toNat = n - k by omega]; exact aA)) rfl rfl ?_)) | ((apply aL (t := 26); have hsrc := (hs.row (some ⟨b, o, none⟩) n c).srcDrop (k + 1) (n - (k + 1)) (zs := X.drop ((k + 1) * 1)) (by rw [List.take_of_length_le (by rw [List.length_drop]; omega)]) (fun u hu => h1 u (List.mem_of_mem_drop hu)) (by omega) (by omega); simp only [Option.map_some, eA] at hsrc; have hs := hs.cutRow k c (by omega) (by omega) (Nat.le_refl _); refine JL_o (by apply dO; exact lJ (n := k) (m := n - (k + 1)) hs rfl rfl hsrc fF (by omega)) rfl rfl ?_; rintro _ _ ⟨rfl, hs, hF⟩)) | ((apply aL (t := 31); rw [hm] at hs ⊢; obtain ⟨ys, hyl, hs⟩ := hs.growRow n (by omega) (by omega); refine aI (v := .slice (some ⟨b, o + (n - 1) * 1, none⟩) 1 (c - (n - 1))) (by apply eC; exact eH (kl := .i64) (kh := .i64) (km := .i64) (a' := some ⟨b, o + (n - 1) * 1, none⟩) (l := (n - 1 : Nat)) (h := (n : Nat)) (m := (c : Nat)) rfl (.inr ⟨_, rfl, rfl⟩) (.inr ⟨_, rfl, rfl⟩) (.inl ⟨rfl, rfl⟩) (by omega) (by omega) (by omega) (by omega) (by rw [if_neg (by omega)]; simp [eA]) (by rw [show ((n : Int) - ((n - 1 : Nat) : Int)).toNat = 1 by omega, show ((c : Int) - ((n - 1 : Nat) : Int)).toNat = c - (n - 1) by omega]; exact aA)) rfl rfl ?_)) | ((apply bH; refine JL_u (by apply jM; exact kS (a := some ⟨b, o, none⟩) (off := n - 1) (n := n) (c := c) (sz := 1) hs rfl rfl (by decide) (fun _ => by simp [eA]) (by omega)) rfl ?_; rintro _ _ ⟨rfl, ⟨zs, hzl, hs⟩, hF⟩)) | (apply aR) | ((first | (apply aI) | (apply JX_f; exact rfl; intro W X hs)); (first | (apply eC; first | exact eS (q := k) rfl rfl (by omega) (by omega) aA | exact gB (q := k + 1) rfl rfl (by omega) (by omega) (by omega) (by omega) aA) | (apply aQ; exact aH rfl aA) | (apply aF; exact aB rfl aA) | (apply aK; exact aM rfl rfl rfl aA) | (apply bL; exact bY rfl aA)); first | (exact rfl; exact rfl) | exact rfl) | (apply bB) | (apply aG) | (apply bJ) | (apply aS; refine bK rfl ob ?_) | (apply dB; (refine dE (id := 5) [0, 0, 3, 0, 0, 24, 63, 127] [(0, 0), (1, 0), (2, 0), (3, 0), (4, 0), (5, 0)] [6, 7] hs eI (by kernel_rfl) (by kernel_rfl) (by kernel_rfl) (by kernel_rfl) (by kernel_rfl) ?_)) | (refine dA (fun W hs => ?_)) | (apply fS; case' hos => (simp only [List.map_cons, List.map_nil, List.getElem?_toArray, List.getElem?_cons_succ, List.getElem?_cons_zero]; repeat' (first | exact gZ | apply fQ))))
      have hs := hs.cutRow (n - 1) c (by omega) (by omega) (Nat.le_refl _)
      rw [iE _ _ _ (by simp only [List.length_append, List.length_take, List.length_drop, hl]; omega), List.take_append_of_le_length (by simp only [List.length_append, List.length_take, List.length_drop, hl]; omega), List.take_of_length_le (by simp only [List.length_append, List.length_take, List.length_drop, hl]; omega)] at hs
      refine aY Tryz.func175 rfl (.tmp rfl .nil) ⟨rfl, St.turned (M := []) hs⟩
    · repeat' (first | ((apply aL (t := 13); refine aI (v := .slice (some ⟨b, o + k * 1, none⟩) 1 (n - k)) (by apply eC; exact eH (kl := .i64) (kh := .i64) (km := .i64) (a' := some ⟨b, o + k * 1, none⟩) (l := (k : Nat)) (h := (k : Int) + 1) (m := (n : Nat)) rfl (.inr ⟨_, rfl, rfl⟩) (.inr ⟨_, rfl, rfl⟩) (.inr ⟨_, rfl, rfl⟩) (by omega) (by omega) (by omega) (by omega) (by rw [if_neg (by omega)]; simp [eA]) (by rw [show ((k : Int) + 1 - (k : Int)).toNat = 1 by omega, show ((n : Int) - (k : Int)).toNat = n - k by omega]; exact aA)) rfl rfl ?_)) | ((apply aL (t := 26); have hs := hs.cutRow k c (by omega) (by omega) (Nat.le_refl _); refine JL_o (by apply dO; exact lJ (n := k) (m := n - (k + 1)) (news := X.drop ((k + 1) * 1)) hs rfl rfl ⟨by rw [List.length_drop]; omega, (fun _ => by omega), (fun u hu => h1 u (List.mem_of_mem_drop hu)), (fun b o hb j u hj => by rw [List.getElem?_drop, List.getElem?_eq_none (by omega)] at hj; cases hj)⟩ (fun h => absurd h (by omega)) (by omega)) rfl rfl ?_; rintro _ _ ⟨rfl, hs, hF⟩)) | ((apply aL (t := 31); rw [hm] at hs ⊢; obtain ⟨ys, hyl, hs⟩ := hs.growRow n (by omega) (by omega); refine aI (v := .slice (some ⟨b, o + (n - 1) * 1, none⟩) 1 (c - (n - 1))) (by apply eC; exact eH (kl := .i64) (kh := .i64) (km := .i64) (a' := some ⟨b, o + (n - 1) * 1, none⟩) (l := (n - 1 : Nat)) (h := (n : Nat)) (m := (c : Nat)) rfl (.inr ⟨_, rfl, rfl⟩) (.inr ⟨_, rfl, rfl⟩) (.inl ⟨rfl, rfl⟩) (by omega) (by omega) (by omega) (by omega) (by rw [if_neg (by omega)]; simp [eA]) (by rw [show ((n : Int) - ((n - 1 : Nat) : Int)).toNat = 1 by omega, show ((c : Int) - ((n - 1 : Nat) : Int)).toNat = c - (n - 1) by omega]; exact aA)) rfl rfl ?_)) | ((apply bH; refine JL_u (by apply jM; exact kS (a := some ⟨b, o, none⟩) (off := n - 1) (n := n) (c := c) (sz := 1) hs rfl rfl (by decide) (fun _ => by simp [eA]) (by omega)) rfl ?_; rintro _ _ ⟨rfl, ⟨zs, hzl, hs⟩, hF⟩)) | (apply aR) | ((first | (apply aI) | (apply JX_f; exact rfl; intro W X hs)); (first | (apply eC; first | exact eS (q := k) rfl rfl (by omega) (by omega) aA | exact gB (q := k + 1) rfl rfl (by omega) (by omega) (by omega) (by omega) aA) | (apply aQ; exact aH rfl aA) | (apply aF; exact aB rfl aA) | (apply aK; exact aM rfl rfl rfl aA) | (apply bL; exact bY rfl aA)); first | (exact rfl; exact rfl) | exact rfl) | (apply bB) | (apply aG) | (apply bJ) | (apply aS; refine bK rfl ob ?_) | (apply dB; (refine dE (id := 5) [0, 0, 3, 0, 0, 24, 63, 127] [(0, 0), (1, 0), (2, 0), (3, 0), (4, 0), (5, 0)] [6, 7] hs eI (by kernel_rfl) (by kernel_rfl) (by kernel_rfl) (by kernel_rfl) (by kernel_rfl) ?_)) | (refine dA (fun W hs => ?_)) | (apply fS; case' hos => (simp only [List.map_cons, List.map_nil, List.getElem?_toArray, List.getElem?_cons_succ, List.getElem?_cons_zero]; repeat' (first | exact gZ | apply fQ))))
      have hs := hs.cutRow (n - 1) c (by omega) (by omega) (Nat.le_refl _)
      rw [iE _ _ _ (by simp only [List.length_append, List.length_take, List.length_drop, hl]; omega), List.take_append_of_le_length (by simp only [List.length_append, List.length_take, List.length_drop, hl]; omega), List.take_of_length_le (by simp only [List.length_append, List.length_take, List.length_drop, hl]; omega)] at hs
      refine aY Tryz.func175 rfl (.tmp rfl .nil) ⟨rfl, St.turned (M := []) hs⟩
  · have hcn : c = n := by omega
    have hkn : k + 1 = n := by omega
    subst hcn
    repeat' (first | ((apply aL (t := 13); refine aI (v := .slice (some ⟨b, o + k * 1, none⟩) 1 (c - k)) (by apply eC; exact eH (kl := .i64) (kh := .i64) (km := .i64) (a' := some ⟨b, o + k * 1, none⟩) (l := (k : Nat)) (h := (k : Int) + 1) (m := (c : Nat)) rfl (.inr ⟨_, rfl, rfl⟩) (.inr ⟨_, rfl, rfl⟩) (.inr ⟨_, rfl, rfl⟩) (by omega) (by omega) (by omega) (by omega) (by rw [if_neg (by omega)]; simp [eA]) (by rw [show ((k : Int) + 1 - (k : Int)).toNat = 1 by omega, show ((c : Int) - (k : Int)).toNat = c - k by omega]; exact aA)) rfl rfl ?_)) | ((apply aL (t := 26); have hs := hs.cutRow k c (by omega) (by omega) (Nat.le_refl _); refine JL_o (by apply dO; exact lJ (n := k) (m := c - (k + 1)) (news := X.drop ((k + 1) * 1)) hs rfl rfl ⟨by rw [List.length_drop]; omega, (fun _ => by omega), (fun u hu => h1 u (List.mem_of_mem_drop hu)), (fun b o hb j u hj => by rw [List.getElem?_drop, List.getElem?_eq_none (by omega)] at hj; cases hj)⟩ (fun h => absurd h (by omega)) (by omega)) rfl rfl ?_; rintro _ _ ⟨rfl, hs, hF⟩)) | ((apply aL (t := 31); rw [hm] at hs ⊢; obtain ⟨ys, hyl, hs⟩ := hs.growRow c (by omega) (by omega); refine aI (v := .slice (some ⟨b, o + (c - 1) * 1, none⟩) 1 1) (by apply eC; exact eH (kl := .i64) (kh := .i64) (km := .i64) (a' := some ⟨b, o + (c - 1) * 1, none⟩) (l := (c - 1 : Nat)) (h := (c : Nat)) (m := (c : Nat)) rfl (.inr ⟨_, rfl, rfl⟩) (.inr ⟨_, rfl, rfl⟩) (.inl ⟨rfl, rfl⟩) (by omega) (by omega) (by omega) (by omega) (by rw [if_neg (by omega)]; simp [eA]) (by rw [show ((c : Int) - ((c - 1 : Nat) : Int)).toNat = 1 by omega]; exact aA)) rfl rfl ?_)) | ((apply bH; refine JL_u (by apply jM; exact kS (a := some ⟨b, o, none⟩) (off := c - 1) (n := c) (c := c) (sz := 1) hs rfl rfl (by decide) (fun _ => by simp [eA]) (by omega)) rfl ?_; rintro _ _ ⟨rfl, ⟨zs, hzl, hs⟩, hF⟩)) | (apply aR) | ((first | (apply aI) | (apply JX_f; exact rfl; intro W X hs)); (first | (apply eC; first | exact eS (q := k) rfl rfl (by omega) (by omega) aA | exact eH (kl := .i64) (kh := .i64) (km := .i64) (l := (k + 1 : Nat)) (m := c) (h := (c : Nat)) rfl (.inr ⟨_, rfl, by rfl⟩) (.inl ⟨rfl, rfl, rfl⟩) (.inl ⟨rfl, rfl⟩) (by omega) (by omega) (by omega) (by omega) rfl (by rw [show ((c : Int) - ((k + 1 : Nat) : Int)).toNat = c - (k + 1) by omega]; exact aA)) | (apply aQ; exact aH rfl aA) | (apply aF; exact aB rfl aA) | (apply aK; exact aM rfl rfl rfl aA) | (apply bL; exact bY rfl aA)); first | (exact rfl; exact rfl) | exact rfl) | (apply bB) | (apply aG) | (apply bJ) | (apply aS; refine bK rfl ob ?_) | (apply dB; (refine dE (id := 5) [0, 0, 3, 0, 0, 24, 63, 127] [(0, 0), (1, 0), (2, 0), (3, 0), (4, 0), (5, 0)] [6, 7] hs eI (by kernel_rfl) (by kernel_rfl) (by kernel_rfl) (by kernel_rfl) (by kernel_rfl) ?_)) | (refine dA (fun W hs => ?_)) | (apply fS; case' hos => (simp only [List.map_cons, List.map_nil, List.getElem?_toArray, List.getElem?_cons_succ, List.getElem?_cons_zero]; repeat' (first | exact gZ | apply fQ))))
    have hs := hs.cutRow (c - 1) c (by omega) (by omega) (Nat.le_refl _)
    rw [iE _ _ _ (by simp only [List.length_append, List.length_take, List.length_drop, hl]; omega), List.take_append_of_le_length (by simp only [List.length_append, List.length_take, List.length_drop, hl]; omega), List.take_of_length_le (by simp only [List.length_append, List.length_take, List.length_drop, hl]; omega)] at hs
    refine aY Tryz.func175 rfl (.tmp rfl .nil) ⟨rfl, St.turned (M := []) hs⟩
theorem wE (w : World) (a : Option Addr) (n c : Nat) (xs : List Int) (x : Int) (h : Sl dId All w a n c xs) (hr : iO xs) (hx : okId x) (hn : n ≤ 1000000) :
    Ret Tryz.prog 117 #[.slice a n c, .int .u64 x] w fun v w' => ∃ a' c', v = .slice a' (insT xs x).length c' ∧ Sl dId All w' a' (insT xs x).length c' (insT xs x) ∧ Ext w w' := by
  refine cG (l := [_, _]) Tryz.func117 rfl Tryz.ntmps117 (by simp) ?_
  have hs := St.init w
  have hl := h.len
  have hle := h.le
  have hcap := h.cap
  unfold maxLen at hcap
  obtain ⟨hsrc, hpl, hok⟩ := h.srcF
  by_cases hm : x ∈ xs
  · have hmd : decide (x ∈ xs) = true := decide_eq_true hm
    have hi : insT xs x = xs := if_pos hm
    repeat' (first | ((apply aW 174; refine JL_o (by exact aC en174 rfl (uO _ a n c xs x (h.st hs) hr hn)) rfl rfl ?_; rintro _ _ ⟨i, hcut, rfl, hE⟩; rw [hmd]; have hs := hs.ext hE; (try simp only [zcc] at hs))) | (apply aR) | ((apply aI); (first | (apply aQ; exact aH rfl aA) | (apply aF; exact aB rfl aA) | (apply bS; exact bM rfl rfl aA)); first | (exact rfl; exact rfl) | exact rfl) | (apply bB) | (apply aG) | (apply aS; refine bZ rfl gb ?_))
    rw [hi, hl]
    refine aY Tryz.func117 rfl (.tmp rfl .nil) ⟨a, c, rfl, h.st hs, hs.frm.ext⟩
  · have hmd : decide (x ∈ xs) = false := decide_eq_false hm
    have hi : insT xs x = wiT xs x := if_neg hm
    have hwl := nF hm
    repeat' (first | ((apply aW 174; refine JL_o (by exact aC en174 rfl (uO _ a n c xs x (h.st hs) hr hn)) rfl rfl ?_; rintro _ _ ⟨i, hcut, rfl, hE⟩; rw [hmd]; have hs := hs.ext hE; (try simp only [zcc] at hs))) | ((apply uP 4; refine hold ?_)) | (apply aR) | ((apply aI); (first | (apply aQ; exact aH rfl aA) | (apply aF; exact aB rfl aA) | (apply bS; exact bM rfl rfl aA)); first | (exact rfl; exact rfl) | exact rfl) | (apply bB) | (apply aG) | (apply bJ) | (apply aS; refine bV rfl gb ?_))
    refine unhold ?_
    have hile := hcut.le
    have hins := cut_ins hcut hm
    obtain ⟨a24, ha24⟩ : ∃ z, (if ((c : Nat) : Int) = ((i : Nat) : Int) then a else a.map (·.add (((i : Nat) : Int).toNat * 1))) = z := ⟨_, rfl⟩
    obtain ⟨s1, p1⟩ := srcTakeS (i := i) hsrc hpl (by omega)
    obtain ⟨s2, p2⟩ := srcDropS (i := i) hsrc hpl (by omega) hle ha24
    have s1 : Src w a i 1 ((encL cId xs).take (i * 1)) := s1
    have s2 : Src w a24 (n - i) 1 ((encL cId xs).drop (i * 1)) := s2
    rw [Nat.mul_one, sB] at s1
    rw [Nat.mul_one, sC] at s2
    repeat' (first | ((apply ax_c; apply JX_c (t := 21); exact rfl; (intro W X hN hs; apply dO; exact tX (xs := encL cId (xs.take i)) (news := [.int .u64 x]) hs rfl rfl (Src.st s1 hs) p1 (qB (hs.blk (b := b20)) rfl) fF (by omega) rfl (by omega) (by unfold maxLen; omega)); (rintro _ _ _ _ ⟨_, _, rfl, _, hE⟩; exact Ext.rl hE); exact rfl; rintro W X _ _ hN hs ⟨b21, c21, rfl, hs, hE⟩; refine JX.at hs ?_)) | ((apply aL (t := 25); refine JL_o (by apply dO; exact fJ (xs := encL cId (xs.take i) ++ [.int .u64 x]) (news := encL cId (xs.drop i)) hs rfl rfl (Src.st s2 hs) p2 rfl (by omega) (by unfold maxLen; omega)) rfl rfl ?_; rintro _ _ ⟨a5, c5, rfl, hs, hF, hnil⟩)) | (apply aR) | ((first | (apply aI) | (apply zM; exact rfl; intro W hs)); (first | (apply eC; first | exact eH (kl := .i64) (kh := .i64) (km := .i64) (a' := a) (l := 0) (h := (i : Int)) (m := (i : Int)) rfl (.inl ⟨rfl, rfl⟩) (.inr ⟨_, rfl, rfl⟩) (.inr ⟨_, rfl, rfl⟩) (by omega) (by omega) (by omega) (by omega) (by split; rfl; exact addr0 _) (by rw [Int.sub_zero, Int.toNat_natCast]; exact aA) | exact eH (kl := .i64) (kh := .i64) (km := .i64) (a' := a24) (l := (i : Int)) (h := (n : Int)) (m := (c : Int)) rfl (.inr ⟨_, rfl, rfl⟩) (.inl ⟨rfl, rfl, rfl⟩) (.inl ⟨rfl, rfl⟩) (by omega) (by omega) (by omega) (by omega) ha24 (by rw [show ((n : Int) - (i : Int)).toNat = n - i by omega, show ((c : Int) - (i : Int)).toNat = c - i by omega]; exact aA)) | (apply aQ; exact aH rfl aA) | (apply aF; exact aB rfl aA)); first | (exact rfl; exact rfl) | exact rfl) | (apply ax_n; refine JX_n (t := 20) rfl (fun W L hs => by apply cV; exact cO hs rfl (by omega) rfl) rfl ?_) | (apply ax_k; (first | refine JX_k (t := 20) ?_ | refine JX_k2 (t := 20) rfl ?_); intro b20) | (apply dB; (refine J_drawZ (id := 4) [0, 0, 0, 7, 0, 16, 63, 0, 0, 384, 1023, 2047] [(0, 0), (1, 0), (2, 0), (3, 0), (4, 0), (7, 0), (8, 0), (9, 0), (5, 2), (5, 3), (6, 1)] [10, 11] hs eI (by kernel_rfl) (by kernel_rfl) (by kernel_rfl) (by kernel_rfl) (by kernel_rfl) ?_; intro NZ hNZ)) | (refine dA (fun W hs => ?_)) | (apply fS; case' hos => (simp only [List.map_cons, List.map_nil, List.getElem?_toArray, List.getElem?_cons_succ, List.getElem?_cons_zero]; repeat' (first | exact gZ | apply fQ))))
    have hwe : encL cId (xs.take i) ++ [.int .u64 x] ++ encL cId (xs.drop i) = encL cId (wiT xs x) := by rw [← hins, gP, gP]; rfl
    rw [hwe] at hs
    have hlen : i + 1 + (n - i) = (insT xs x).length := by rw [hi, hwl]; omega
    rw [← hi, hlen] at hs
    rw [hlen]
    have hsl := slU (L := _ :: _) hs (List.Mem.head _) (fun y hy => by rcases insT_mem.1 hy with e | e; exact e ▸ hx; exact hok y e)
    refine aY Tryz.func117 rfl (.tmp rfl .nil) ⟨_, _, rfl, hsl, hs.frm.ext⟩
theorem lM (w : World) (a : Option Addr) (n c : Nat) (xs : List Int) (x : Int) (h : Sl dId All w a n c xs) (hx : okId x) :
    Ret Tryz.prog 45 #[.slice a n c, .int .u64 x] w fun v w' => ∃ a', v = .tuple #[.slice a' (gG xs x).length (gG xs x).length, .int .i64 (hM xs x)] ∧ Fresh w w' [RowU a' (gG xs x).length (gG xs x).length (gG xs x)] := by
  refine cG (l := [_, _]) Tryz.func45 rfl Tryz.ntmps45 (by simp) ?_
  have hs := St.init w
  have hl := h.len
  cases h1 : dR xs with
  | false =>
    have e : hM xs x = 130 := by unfold hM; rw [if_neg (by rw [h1]; decide)]
    have e2 : gG xs x = [] := by unfold gG; rw [e, if_neg (by decide)]
    rw [e, e2]
    repeat' (first | ((apply aW 59; refine JL_o (by exact aC en59 rfl (dL _ a n c xs (h.st hs))) rfl rfl ?_; rintro _ _ ⟨rfl, hE⟩; rw [h1]; have hs := hs.ext hE; (try simp only [zcc] at hs))) | (apply aR) | ((apply aI); (first | (apply aQ; exact aH rfl aA) | (apply aF; exact aB rfl aA) | (apply aK; exact aM rfl rfl rfl aA)); first | (exact rfl; exact rfl) | exact rfl) | (apply bB) | (apply aG) | (apply bC) | (apply aS; refine bZ rfl gb ?_))
    have hs := hs.nilRow 29 1
    refine aY Tryz.func45 rfl (.tmp rfl (.tmp rfl .nil)) ⟨none, rfl, hs.out (List.Sublist.refl _)⟩
  | true =>
    obtain ⟨i1, i2, i3⟩ := typeB_iff.1 h1
    cases h2 : mayM x with
    | false =>
      have e : hM xs x = 2 := by unfold hM; rw [if_pos h1, if_neg (by rw [h2]; decide)]
      have e2 : gG xs x = [] := by unfold gG; rw [e, if_neg (by decide)]
      rw [e, e2]
      repeat' (first | ((apply aW 59; refine JL_o (by exact aC en59 rfl (dL _ a n c xs (h.st hs))) rfl rfl ?_; rintro _ _ ⟨rfl, hE⟩; rw [h1]; have hs := hs.ext hE; (try simp only [zcc] at hs))) | ((apply aW 115; refine JL_o (by exact aC tP rfl (tF _ x hx)) rfl rfl ?_; rintro _ _ ⟨rfl, hE⟩; rw [h2]; have hs := hs.ext hE; (try simp only [zcc] at hs))) | (apply aR) | ((apply aI); (first | (apply aQ; exact aH rfl aA) | (apply aF; exact aB rfl aA) | (apply aK; exact aM rfl rfl rfl aA) | (apply cB; exact cE rfl aA)); first | (exact rfl; exact rfl) | exact rfl) | (apply bB) | (apply aG) | (apply bC) | (apply aS; first | refine bZ rfl gb ?_ | refine bV rfl gb ?_))
      have hs := hs.nilRow 29 1
      refine aY Tryz.func45 rfl (.tmp rfl (.tmp rfl .nil)) ⟨none, rfl, hs.out (List.Sublist.refl _)⟩
    | true =>
      have hil := insT_len xs x
      obtain ⟨Z, hZ⟩ : ∃ Z, Z = insT xs x := ⟨_, rfl⟩
      rw [← hZ] at hil
      by_cases h3 : 12 < Z.length
      · have e : hM xs x = 6 := by unfold hM; rw [if_pos h1, if_pos h2, ← hZ, if_pos h3]
        have e2 : gG xs x = [] := by unfold gG; rw [e, if_neg (by decide)]
        rw [e, e2]
        repeat' (first | ((apply aW 59; refine JL_o (by exact aC en59 rfl (dL _ a n c xs (h.st hs))) rfl rfl ?_; rintro _ _ ⟨rfl, hE⟩; rw [h1]; have hs := hs.ext hE; (try simp only [zcc] at hs))) | ((apply aW 115; refine JL_o (by exact aC tP rfl (tF _ x hx)) rfl rfl ?_; rintro _ _ ⟨rfl, hE⟩; rw [h2]; have hs := hs.ext hE; (try simp only [zcc] at hs))) | ((apply aW 117; refine JL_o (by exact aC en117 rfl (wE _ a n c xs x (h.st hs) i2 hx (by omega))) rfl rfl ?_; rintro _ _ ⟨a7, c7, rfl, hsl, hE⟩; rw [← hZ] at hsl ⊢; have hs := hs.ext hE; (try simp only [zcc] at hs))) | ((apply aW 116; refine JL_o (by exact aC en116 rfl (wK _ a7 Z.length c7 Z hsl (by omega))) rfl rfl ?_; rintro _ _ ⟨a8, rfl, hf⟩; have hs := hs.fresh hf; (try simp only [zcc] at hs))) | (apply aR) | ((apply aI); (first | (apply aQ; exact aH rfl aA) | (apply aF; exact aB rfl aA) | (apply aK; exact aM rfl rfl rfl aA) | (apply cB; exact cE rfl aA) | (apply bL; exact bY rfl aA)); first | (exact rfl; exact rfl) | exact rfl) | (apply bB) | (apply aG) | (apply bC) | (apply bN) | (apply bJ) | (apply aS; first | refine bF rfl ob ?_ | refine bV rfl gb ?_))
        have hs := hs.nilRow 29 1
        refine aY Tryz.func45 rfl (.tmp rfl (.tmp rfl .nil)) ⟨none, rfl, hs.out (.cons_cons _ (List.nil_sublist _))⟩
      · have e : hM xs x = 0 := by unfold hM; rw [if_pos h1, if_pos h2, ← hZ, if_neg h3]
        have e2 : gG xs x = Z := by unfold gG; rw [e, if_pos rfl, hZ]
        rw [e, e2]
        repeat' (first | ((apply aW 59; refine JL_o (by exact aC en59 rfl (dL _ a n c xs (h.st hs))) rfl rfl ?_; rintro _ _ ⟨rfl, hE⟩; rw [h1]; have hs := hs.ext hE; (try simp only [zcc] at hs))) | ((apply aW 115; refine JL_o (by exact aC tP rfl (tF _ x hx)) rfl rfl ?_; rintro _ _ ⟨rfl, hE⟩; rw [h2]; have hs := hs.ext hE; (try simp only [zcc] at hs))) | ((apply aW 117; refine JL_o (by exact aC en117 rfl (wE _ a n c xs x (h.st hs) i2 hx (by omega))) rfl rfl ?_; rintro _ _ ⟨a7, c7, rfl, hsl, hE⟩; rw [← hZ] at hsl ⊢; have hs := hs.ext hE; (try simp only [zcc] at hs))) | ((apply aW 116; refine JL_o (by exact aC en116 rfl (wK _ a7 Z.length c7 Z hsl (by omega))) rfl rfl ?_; rintro _ _ ⟨a8, rfl, hf⟩; have hs := hs.fresh hf; (try simp only [zcc] at hs))) | (apply aR) | ((apply aI); (first | (apply aQ; exact aH rfl aA) | (apply aF; exact aB rfl aA) | (apply aK; exact aM rfl rfl rfl aA) | (apply cB; exact cE rfl aA) | (apply bL; exact bY rfl aA)); first | (exact rfl; exact rfl) | exact rfl) | (apply bB) | (apply aG) | (apply bC) | (apply bN) | (apply bJ) | (apply aS; first | refine bK rfl ob ?_ | refine bV rfl gb ?_))
        refine aY Tryz.func45 rfl (.tmp rfl (.tmp rfl .nil)) ⟨a8, rfl, hs.out (List.Sublist.refl _)⟩
theorem iD (w : World) (a : Option Addr) (n c : Nat) (xs : List Int) (x : Int) (h : Sl dId All w a n c xs) :
    Ret Tryz.prog 101 #[.slice a n c, .int .u64 x] w fun v w' => ∃ a' c', v = .tuple #[.slice a' (outL xs x).length c', .int .i64 (outC xs x)] ∧ Fresh w w' [RowU a' (outL xs x).length c' (outL xs x)] := by
  refine cG (l := [_, _]) Tryz.func101 rfl Tryz.ntmps101 (by simp) ?_
  have hs := St.init w
  have hl := h.len
  have hok := mO h
  cases h1 : dR xs with
  | false =>
    have e : outC xs x = 130 := by unfold outC; rw [if_neg (by rw [h1]; decide)]
    have e2 : outL xs x = [] := by unfold outL; rw [e, if_neg (by decide)]
    rw [e, e2]
    repeat' (first | ((apply aW 59; refine JL_o (by exact aC en59 rfl (dL _ a n c xs (h.st hs))) rfl rfl ?_; rintro _ _ ⟨rfl, hE⟩; rw [h1]; have hs := hs.ext hE; (try simp only [zcc] at hs))) | (apply aR) | ((apply aI); (first | (apply aQ; exact aH rfl aA) | (apply aF; exact aB rfl aA) | (apply aK; exact aM rfl rfl rfl aA)); first | (exact rfl; exact rfl) | exact rfl) | (apply bB) | (apply aG) | (apply aS; refine bZ rfl gb ?_))
    have hs := hs.nilRow 29 1
    refine aY Tryz.func101 rfl (.tmp rfl (.tmp rfl .nil)) ⟨none, 0, rfl, hs.out (List.Sublist.refl _)⟩
  | true =>
    obtain ⟨i1, i2, i3⟩ := typeB_iff.1 h1
    by_cases hm : x ∈ xs
    · have hmd : decide (x ∈ xs) = true := decide_eq_true hm
      have e : outC xs x = 0 := by unfold outC; rw [if_pos h1, if_pos hm]
      have e2 : outL xs x = outT xs x := by unfold outL; rw [e, if_pos rfl]
      rw [e, e2]
      repeat' (first | ((apply aW 59; refine JL_o (by exact aC en59 rfl (dL _ a n c xs (h.st hs))) rfl rfl ?_; rintro _ _ ⟨rfl, hE⟩; rw [h1]; have hs := hs.ext hE; (try simp only [zcc] at hs))) | ((apply aW 174; refine JL_o (by exact aC en174 rfl (uO _ a n c xs x (h.st hs) i2 (by omega))) rfl rfl ?_; rintro _ _ ⟨i, hcut, rfl, hE⟩; rw [hmd]; have hs := hs.ext hE; have hil := (List.getElem?_eq_some_iff.1 ((hcut.there i2).1 hm)).1; (try simp only [zcc] at hs))) | ((apply aW 116; refine JL_o (by exact aC en116 rfl (wK _ a n c xs (h.st hs) (by omega))) rfl rfl ?_; rintro _ _ ⟨a8, rfl, hf⟩; have hs := hs.fresh hf; (try simp only [zcc] at hs))) | ((apply aL (t := 27); refine JL_o (aC en175 rfl (vW _ a8 n n i (encL cId xs) (St.held (A := [_]) hs) (by omega) (by omega) (encI_one xs))) rfl rfl ?_; rintro _ _ ⟨rfl, ht⟩; have hs := St.take (A := [_]) (A' := [_]) hs ht; simp only [zcc] at hs)) | (apply aR) | ((apply aI); (first | (apply aQ; exact aH rfl aA) | (apply aF; exact aB rfl aA) | (apply cJ; exact bR rfl rfl (by omega) (by first | (simp only [Int.reduceAdd]; exact rfl) | exact rfl) aA) | (apply aK; exact aM rfl rfl rfl aA) | (apply cB; exact cE rfl aA) | (apply bS; exact bM rfl rfl aA)); first | (exact rfl; exact rfl) | exact rfl) | (apply bB) | (apply aG) | (apply bJ) | (apply aS; refine bV rfl gb ?_))
      have hce : (encL cId xs).take (i * 1) ++ (encL cId xs).drop ((i + 1) * 1) = encL cId (outT xs x) := by rw [Nat.mul_one, Nat.mul_one, sB, sC, ← gP, yM hcut i2 hm]
      have hlo : n - 1 = (outT xs x).length := by rw [← yM hcut i2 hm, List.length_append, List.length_take, List.length_drop]; omega
      rw [hce, hlo] at hs
      rw [hlo]
      refine aY Tryz.func101 rfl (.tmp rfl (.tmp rfl .nil)) ⟨a8, n, rfl, hs.out (List.Sublist.refl _)⟩
    · have hmd : decide (x ∈ xs) = false := decide_eq_false hm
      have e : outC xs x = 4 := by unfold outC; rw [if_pos h1, if_neg hm]
      have e2 : outL xs x = [] := by unfold outL; rw [e, if_neg (by decide)]
      rw [e, e2]
      repeat' (first | ((apply aW 59; refine JL_o (by exact aC en59 rfl (dL _ a n c xs (h.st hs))) rfl rfl ?_; rintro _ _ ⟨rfl, hE⟩; rw [h1]; have hs := hs.ext hE; (try simp only [zcc] at hs))) | ((apply aW 174; refine JL_o (by exact aC en174 rfl (uO _ a n c xs x (h.st hs) i2 (by omega))) rfl rfl ?_; rintro _ _ ⟨i, hcut, rfl, hE⟩; rw [hmd]; have hs := hs.ext hE; (try simp only [zcc] at hs))) | (apply aR) | ((apply aI); (first | (apply aQ; exact aH rfl aA) | (apply aF; exact aB rfl aA) | (apply aK; exact aM rfl rfl rfl aA) | (apply cB; exact cE rfl aA) | (apply bS; exact bM rfl rfl aA)); first | (exact rfl; exact rfl) | exact rfl) | (apply bB) | (apply aG) | (apply bJ) | (apply aS; first | refine bZ rfl gb ?_ | refine bV rfl gb ?_))
      have hs := hs.nilRow 29 1
      refine aY Tryz.func101 rfl (.tmp rfl (.tmp rfl .nil)) ⟨none, 0, rfl, hs.out (List.Sublist.refl _)⟩
theorem has1_r (w : World) (y x : Int) (b3 : Nat) (hb3 : w.heap[b3]? = some (.cells #[.int .u64 x] 29 (0, 0))) : Ret Tryz.prog 123 #[.int .u64 y, ptr b3] w fun v w' => v = .bool (decide (y = x)) ∧ Ext w w' := by
  refine cG (l := [_, _]) Tryz.func123 rfl Tryz.ntmps123 (by simp) ?_
  have hs := St.init w
  repeat' (first | (apply aR) | ((apply aI); (first | (apply aV; exact bT (hs.old_cell (cK (off := 0) hb3 rfl)) rfl aA) | (apply aQ; exact aH rfl aA) | (apply aF; exact aB rfl aA) | (apply aK; exact aM rfl rfl rfl aA)); first | (exact rfl; exact rfl) | exact rfl) | (apply bB) | (apply aG))
  refine aY Tryz.func123 rfl (.tmp rfl .nil) ⟨rfl, hs.frm.ext⟩
theorem some_r (w : World) (a : Option Addr) (n c q3 : Nat) :
    Ret Tryz.prog 122 #[.slice a n c, .func (.func 123) #[] #[ptr q3]] w fun v w' => ∃ b1 b2, v = .func (.func 185) #[] #[ptr b1, ptr b2] ∧ Fresh w w' [Blk b2 (.cells #[.func (.func 123) #[] #[ptr q3]] 130 (0, 0)), Blk b1 (.cells #[.slice a n c] 43 (0, 0))] := by
  refine cG (l := [_, _]) Tryz.func122 rfl Tryz.ntmps122 (by simp) ?_
  have hs := St.init w
  repeat' (first | (apply aR) | ((apply aI); (first | (apply aF; exact aB rfl aA) | (apply eR; exact gQ rfl aA)); first | (exact rfl; exact rfl) | exact rfl) | (apply bB) | (apply aG) | (apply aL (t := 2); refine JL_o (by apply cD; exact bG hs rfl) rfl rfl ?_; rintro _ _ ⟨b2, rfl, hb2, hs, hE⟩) | (apply aL (t := 3); refine JL_o (by apply cD; exact bG hs rfl) rfl rfl ?_; rintro _ _ ⟨b3, rfl, hb3, hs, hE⟩))
  refine aY Tryz.func122 rfl (.tmp rfl .nil) ⟨b2, b3, rfl, hs.out (List.Sublist.refl _)⟩
abbrev hasF (xs : List Int) (x : Int) : List Int := if dR xs then xs.filter (fun y => decide (y = x)) else []
theorem wQ (R : Nat → Prop) (wr : World) (b1 b2 b3 : Nat) (a : Option Addr) (n c : Nat) (xs : List Int) (x : Int) (h : Sl dId R wr a n c xs) (hb1 : wr.heap[b1]? = some (.cells #[.slice a n c] 43 (0, 0))) (hb2 : wr.heap[b2]? = some (.cells #[.func (.func 123) #[] #[ptr b3]] 130 (0, 0))) (hb3 : wr.heap[b3]? = some (.cells #[.int .u64 x] 29 (0, 0))) :
    zP Tryz.prog (.func (.func 185) #[] #[ptr b1, ptr b2]) (hasF xs x).length (idX (hasF xs x)) wr (fun k => (R k ∧ k < wr.heap.size) ∨ k = b1 ∨ k = b2 ∨ k = b3) := by
  intro y C Cs w c0 hy hK h0 hheld
  refine RetV.closure (avs := [_]) (cap := [_, _]) en185 ?_
  refine cG (l := [_, _, _]) Tryz.func185 rfl Tryz.ntmps185 (by simp) ?_
  have hs := hheld.st
  have hl := h.len
  have hmx : n ≤ 9223372036854775807 := by have h1 := h.le; have h2 := h.cap; unfold maxLen at h2; omega
  have hb1w := (hK b1 (.inr (.inl rfl))).1.trans hb1
  have hb1F := (hK b1 (.inr (.inl rfl))).2
  have hb2w := (hK b2 (.inr (.inr (.inl rfl)))).1.trans hb2
  have hb2F := (hK b2 (.inr (.inr (.inl rfl)))).2
  have hb3w := (hK b3 (.inr (.inr (.inr rfl)))).1.trans hb3
  have hb3F := (hK b3 (.inr (.inr (.inr rfl)))).2
  have hb3l := (Array.getElem?_eq_some_iff.1 hb3w).1
  have hsl : ∀ {W : World} {L : List HP}, St w (Star c0).foot W L → Sl dId All W a n c xs := fun {W L} hs => (h.loc (fun k hk hlt => hs.keepK (hK k (.inl ⟨hk, hlt⟩)).1 (hK k (.inl ⟨hk, hlt⟩)).2 hlt)).weak (fun _ _ => trivial)
  obtain ⟨U, hU⟩ : ∃ U, U = hasF xs x := ⟨_, rfl⟩
  rw [← hU] at hy ⊢
  cases ht : dR xs with
  | false =>
    have hU0 : U = [] := by rw [hU]; unfold hasF; rw [if_neg (by rw [ht]; decide)]
    subst hU0
    repeat' (first | ((apply aW 59; refine JL_o (by exact aC en59 rfl (dL _ a n c xs (hsl hs))) rfl rfl ?_; rintro _ _ ⟨rfl, hE⟩; rw [ht]; have hs := hs.ext hE; (try simp only [zcc] at hs))) | (apply aR) | ((apply aI); (first | (apply aV; first | exact bT (hs.keep_cell (cK (off := 0) hb1w rfl) hb1F) rfl aA | exact bT (hs.keep_cell (cK (off := 0) hb2w rfl) hb2F) rfl aA) | (apply aK; exact aM rfl rfl rfl aA)); first | (exact rfl; exact rfl) | exact rfl) | (apply bB) | (apply aG) | (apply aS; refine bZ rfl gb ?_))
    refine aY Tryz.func185 rfl .nil ⟨c0, .inl h0, St.turned (M := []) (by simpa using hs)⟩
  | true =>
    have hUf : U = xs.filter (fun y => decide (y = x)) := by rw [hU]; unfold hasF; rw [if_pos ht]
    repeat' (first | ((apply aW 59; refine JL_o (by exact aC en59 rfl (dL _ a n c xs (hsl hs))) rfl rfl ?_; rintro _ _ ⟨rfl, hE⟩; rw [ht]; have hs := hs.ext hE; (try simp only [zcc] at hs))) | (apply aR) | ((apply aI); (first | (apply aV; first | exact bT (hs.keep_cell (cK (off := 0) hb1w rfl) hb1F) rfl aA | exact bT (hs.keep_cell (cK (off := 0) hb2w rfl) hb2F) rfl aA) | (apply aQ; exact aH rfl aA) | (apply aK; exact aM rfl rfl rfl aA) | (apply bL; exact bY rfl aA)); first | (exact rfl; exact rfl) | exact rfl) | (apply bB) | (apply aG) | (apply bC) | (apply bJ) | (apply aS; refine bV rfl gb ?_))
    refine dG (α := Nat × List HP) [(0, _), (2, _), (9, _), (10, _)] (fun g => [(11, .int .i64 g.1)]) (fun g w' => St w (Star c0).foot w' g.2 ∧ C ((xs.take g.1).filter (fun y => decide (y = x))).length g.2 ∧ g.1 ≤ n) (fun g => n - g.1) (0, c0) ⟨hs, h0, Nat.zero_le _⟩ zss ?_
    rintro ⟨k, ck⟩ w' ⟨hs, hC, hk⟩ ih
    dsimp only at hs hC hk ih ⊢
    by_cases hlt : k < n
    · have hu : xs[k]? = some (xs[k]'(by omega)) := List.getElem?_eq_getElem (by omega)
      obtain ⟨u, hud⟩ : ∃ u, u = xs[k]'(by omega) := ⟨_, rfl⟩
      rw [← hud] at hu
      have hfs := congrArg List.length (iT (fun y => decide (y = x)) hu)
      rw [List.length_append] at hfs
      obtain ⟨p2, o2, rfl⟩ := (hsl hs).sl.addr (by omega)
      by_cases hux : u = x
      · have hud2 : decide (u = x) = true := decide_eq_true hux
        rw [if_pos hud2] at hfs
        have hge : U[((xs.take k).filter (fun y => decide (y = x))).length]? = some u := by
          have hxs : xs.filter (fun y => decide (y = x)) = (xs.take k).filter (fun y => decide (y = x)) ++ ([u] ++ (xs.drop (k + 1)).filter (fun y => decide (y = x))) := by
            conv => lhs; rw [← List.take_append_drop (k + 1) xs]
            rw [List.filter_append, iT _ hu, if_pos hud2, List.append_assoc]
          rw [hUf, hxs, List.getElem?_append_right (Nat.le_refl _), Nat.sub_self]; rfl
        have hlt2 := (List.getElem?_eq_some_iff.1 hge).1
        repeat' (first | ((apply aL (t := 17); refine JL_o (cH rfl rfl (Ret.value (cap := #[ptr b3]) en123 (has1_r _ u x b3 ((hs.frm.old b3 hb3l hb3F).trans hb3w)))) rfl rfl ?_; rintro _ _ ⟨rfl, hE⟩; rw [hud2]; have hs := hs.ext hE; (try simp only [zcc] at hs))) | ((apply cW; have hs2 : St w (Star c0).foot _ ((ck ++ []) ++ []) := (by simpa using hs); refine cX (t := 21) rfl gb (cH rfl rfl (hy _ _ [_] _ ck hlt2 hC ⟨_, hge, rfl, rfl⟩ hs2.held hs2.frm)) rfl rfl ?_; rintro _ _ ⟨c', ⟨rfl, hC'⟩ | ⟨rfl, hC'⟩, ht⟩ <;> have hs : St w (Star c0).foot _ c' := (hs2.take ht).sub (List.sublist_append_left _ _))) | (apply aR) | ((first | (apply aI) | (apply bX; exact rfl; exact gb)); (first | (apply aV; first | exact bT (hs.keep_cell (cK (off := 0) hb2w rfl) hb2F) rfl aA | exact bU (i := k) (j := 0) (hsl hs) hu rfl rfl rfl aA) | (apply aQ; exact aH rfl aA) | (apply aF; exact aB rfl aA) | (apply cJ; exact bR rfl rfl (by omega) (by first | (simp only [Int.reduceAdd]; exact rfl) | exact rfl) aA) | (apply aK; exact aM rfl rfl rfl aA) | (apply cB; exact cE rfl aA) | (apply cF; exact bW rfl gb rfl aA) | (apply aO; exact aN rfl rfl (by omega) (by omega) aA)); first | (exact rfl; exact rfl) | exact rfl) | (apply bB) | (apply aG) | (apply bC) | (apply bN) | (apply bJ) | (apply aS; first | refine bF rfl ob ?_ | refine bZ rfl gb ?_ | refine bV rfl gb ?_))
        · refine ih (k + 1, c') _ _ ⟨hs, by dsimp only; rw [hfs]; exact hC', hlt⟩ (by dsimp only; omega) zss
        · refine aY Tryz.func185 rfl .nil ⟨c', .inr hC', St.turned (M := []) (by simpa using hs)⟩
      · have hud2 : decide (u = x) = false := decide_eq_false hux
        rw [if_neg (by rw [hud2]; decide)] at hfs
        repeat' (first | ((apply aL (t := 17); refine JL_o (cH rfl rfl (Ret.value (cap := #[ptr b3]) en123 (has1_r _ u x b3 ((hs.frm.old b3 hb3l hb3F).trans hb3w)))) rfl rfl ?_; rintro _ _ ⟨rfl, hE⟩; rw [hud2]; have hs := hs.ext hE; (try simp only [zcc] at hs))) | (apply aR) | ((apply aI); (first | (apply aV; first | exact bT (hs.keep_cell (cK (off := 0) hb2w rfl) hb2F) rfl aA | exact bU (i := k) (j := 0) (hsl hs) hu rfl rfl rfl aA) | (apply aQ; exact aH rfl aA) | (apply aF; exact aB rfl aA) | (apply cJ; exact bR rfl rfl (by omega) (by first | (simp only [Int.reduceAdd]; exact rfl) | exact rfl) aA) | (apply aK; exact aM rfl rfl rfl aA) | (apply cF; exact bO rfl gb rfl aA) | (apply aO; exact aN rfl rfl (by omega) (by omega) aA)); first | (exact rfl; exact rfl) | exact rfl) | (apply bB) | (apply aG) | (apply bC) | (apply bN) | (apply bJ) | (apply cW; (refine fM rfl gb rfl ?_)) | (apply aS; first | refine bF rfl ob ?_ | refine bV rfl gb ?_))
        refine ih (k + 1, ck) _ _ ⟨hs, by dsimp only; rw [hfs]; exact hC, hlt⟩ (by dsimp only; omega) zss
    · rw [List.take_of_length_le (by omega), ← hUf] at hC
      repeat' (first | (apply aR) | ((apply aI); (apply aK; exact aM rfl rfl rfl aA); first | (exact rfl; exact rfl) | exact rfl) | (apply bB) | (apply aG) | (apply cI; refine cZ rfl ?_) | (apply aS; refine bK rfl ob ?_))
      refine fD Tryz.func185 rfl .nil ⟨ck, .inl hC, St.turned (M := []) (by simpa using hs)⟩
theorem oT (w : World) (a : Option Addr) (n c : Nat) (xs : List Int) (x : Int) (h : Sl dId All w a n c xs) :
    Ret Tryz.prog 47 #[.slice a n c, .int .u64 x] w fun v w' => v = .bool (hasT xs x) ∧ Ext w w' := by
  refine cG (l := [_, _]) Tryz.func47 rfl Tryz.ntmps47 (by simp) ?_
  have hs := St.init w
  repeat' (first | ((apply aW 122; refine JL_o (by exact aC en122 rfl (some_r _ a n c b3)) rfl rfl ?_; rintro _ _ ⟨b1, b2, rfl, hf⟩; have hs := hs.fresh hf; (try simp only [zcc] at hs))) | (apply aR) | ((apply aI); (first | (apply aQ; exact aH rfl aA) | (apply eR; exact gQ rfl aA)); first | (exact rfl; exact rfl) | exact rfl) | (apply bB) | (apply aG) | (apply bC) | (apply aL (t := 3); refine JL_o (by apply cD; exact bG hs rfl) rfl rfl ?_; rintro _ _ ⟨b3, rfl, hb3, hs, hE⟩) | (apply aL (t := 4); refine JL_o (by apply bE; exact aX hs) rfl rfl ?_; rintro _ _ ⟨b4, rfl, hb4, hs, hE⟩))
  have hbt := hs.blk (b := b1)
  have hbl := hs.blk (b := b2)
  have hb3 := hs.blk (b := b3)
  have hlt1 := hs.lt (b := b1)
  have hlt2 := hs.lt (b := b2)
  have hlt3 := hs.lt (b := b3)
  have hs0 : St w NoF _ ([Blk b4 (.cells #[.bool false] 4 (0, 0))] ++ [Blk b3 _, Blk b2 _, Blk b1 _]) := hs.sel [2, 3, 0, 1] (by decide)
  have hit := wQ (fun k => k < w.heap.size) _ b1 b2 b3 a n c xs x ((slOldI h).loc (fun k hk _ => hs0.frm.old k hk id)) hbt hbl hb3
  refine rH (ps := [8]) hs0 rfl ⟨185, #[ptr b1, ptr b2], rfl, en185⟩ hit
    (fun k A => A = [Blk b4 (.cells #[.bool false] 4 (0, 0))] ∧ k = 0)
    (fun j A => (j = .ret ∧ hasT xs x = true) ∧ A = [Blk b4 (.cells #[.bool true] 4 (0, 0))]) ⟨rfl, rfl⟩ ?_ (by decide) ?_ ?_ ?_ ?_
  · rintro k (⟨hk, hk2⟩ | rfl | rfl | rfl)
    · exact ⟨rfl, fun hf => by have := hs0.foot0 k hf; omega, hk2⟩
    · exact ⟨rfl, fun hf => hs0.sepA (.tail _ (.tail _ (.head _))) hf (gA _ _), hlt1⟩
    · exact ⟨rfl, fun hf => hs0.sepA (.tail _ (.head _)) hf (gA _ _), hlt2⟩
    · exact ⟨rfl, fun hf => hs0.sepA (.head _) hf (gA _ _), hlt3⟩
  · rintro i vals cx ⟨_, _, rfl, _⟩; rfl
  · rintro l2 D tm k w1 A1 cx vals hD hDl hk ⟨rfl, hG⟩ ⟨y, hy, rfl, rfl⟩ hh hold
    have hs : St _ _ _ [_, _] := hh.st
    have hyes : hasT xs x = true := by
      have hym := List.mem_of_getElem? hy
      unfold hasF at hym
      by_cases ht : dR xs = true
      · rw [if_pos ht] at hym
        obtain ⟨h1, h2⟩ := List.mem_filter.1 hym
        have h2 := of_decide_eq_true h2
        unfold hasT
        rw [ht, decide_eq_true (h2 ▸ h1)]; rfl
      · rw [if_neg ht] at hym; cases hym
    repeat' (first | ((refine eQ hs (fun w2 hs => ?_))) | (apply aR) | (apply bB) | (apply aG) | (apply bC) | (apply bJ) | (apply bH; refine JL_u (by apply bA; exact aZ hs rfl rfl rfl) rfl ?_; rintro _ _ ⟨hs, hF⟩))
    have hs : St _ _ _ [_, _] := hs.sel [0, 1] (by decide)
    refine pM hs (fun w3 hs => .inr ⟨rfl, .ret, [Blk b4 (.cells #[.bool true] 4 (0, 0))], ⟨⟨rfl, hyes⟩, rfl⟩, St.turned (M := []) hs⟩)
  · rintro w2 D A2 ⟨rfl, hG⟩ hs
    have hs : St w NoF _ [_, _, _, _, _] := hs
    have hno : hasT xs x = false := by
      unfold hasT
      by_cases ht : dR xs = true
      · rw [ht, decide_eq_false]; rfl
        intro hm
        unfold hasF at hG
        rw [if_pos ht] at hG
        have := List.eq_nil_of_length_eq_zero hG
        have h2 : x ∈ xs.filter (fun y => decide (y = x)) := List.mem_filter.2 ⟨hm, by simp⟩
        rw [this] at h2; cases h2
      · have : dR xs = false := by simpa using ht
        rw [this]; rfl
    rw [hno]
    repeat' (first | ((refine oN (lK hs (fun w3 hs => oL Tryz.func47 rfl (.scal' hs rfl rfl .nil) ⟨rfl, hs.frm.ext⟩)))) | (apply aR) | (apply bB) | (apply aG) | (apply bN) | (apply bH; refine JL_u (by apply bA; exact aZ hs rfl rfl rfl) rfl ?_; rintro _ _ ⟨hs, hF⟩))
  · rintro w2 D A2 j ⟨⟨rfl, hm⟩, rfl⟩ hs
    have hs : St w NoF _ [_, _, _, _, _] := hs
    rw [hm]
    repeat' (first | ((refine oN (lK hs (fun w3 hs => oL Tryz.func47 rfl (.scal' hs rfl rfl .nil) ⟨rfl, hs.frm.ext⟩)))))
end Go.Eng
end
section
namespace Go.Eng
open Go.Proofs
set_option linter.unusedSimpArgs false
set_option linter.unusedVariables false
abbrev ST := Int × Int
abbrev dStp : Ty ST := iZ (tInt .u64) (tInt .i64)
abbrev okT (h : ST) : Prop := inK .u64 h.1 ∧ inK .i64 h.2
abbrev cT (h : ST) : List Value := [.int .u64 h.1, .int .i64 h.2]
theorem flatStp : FlatTy dStp cT okT :=
  (inferInstance : FlatTy (iZ (tInt .u64) (tInt .i64)) (fun h => [.int .u64 h.1] ++ [.int .i64 h.2]) (fun h => inK .u64 h.1 ∧ inK .i64 h.2))
instance (priority := high) : FlatTy dStp cT okT := flatStp
theorem eqStp (a b c d : Int) : EqlT Tryz.prog 93 (.agg #[.int .u64 a, .int .i64 b]) (.agg #[.int .u64 c, .int .i64 d]) (a = c ∧ b = d) instDecidableAnd := by
  refine ⟨fun w => ?_, ⟨_, _, rfl, rfl⟩, by kernel_rfl⟩
  have u3 := Tryz.underlying3
  have a3 := Tryz.isAgg3
  have z3 := Tryz.sizeOf3
  have u4 := Tryz.underlying29
  have a4 := Tryz.isAgg29
  have z4 := Tryz.sizeOf29
  have hS : Tryz.prog.underlying 93 = some (.struct (Tryz.prog.fieldsOf 93)) := by kernel_rfl
  have hp : Tryz.prog.stoodInHeld 93 = false := by kernel_rfl
  rw [show (10000 : Nat) = 9999 + 1 from rfl, run_equalIn_agg w 9999 93 _ _ hS hp]
  simp only [Program.fieldsOf, Tryz.underlying93]
  go_simp
  by_cases h1 : a = c <;> by_cases h2 : b = d <;> simp [h1, h2]
instance (a b c d : Int) : EqlT Tryz.prog 93 (.agg #[.int .u64 a, .int .i64 b]) (.agg #[.int .u64 c, .int .i64 d]) (a = c ∧ b = d) instDecidableAnd := eqStp a b c d
theorem st_eq {x y : ST} : (x.1 = y.1 ∧ x.2 = y.2) ↔ x = y := ⟨fun h => Prod.ext h.1 h.2, fun h => by subst h; exact ⟨rfl, rfl⟩⟩
abbrev RowT (a : Option Addr) (n c : Nat) (xs : List ST) : HP := Row a n c 93 2 (encL cT xs)
theorem src_blkT {w : World} {b e : Nat} {r : ST} {fz : Nat × Nat} (h : w.heap[b]? = some (.cells #[.int .u64 r.1, .int .i64 r.2] e fz)) : Src w (some ⟨b, 0, none⟩) 1 2 (cT r) := by
  refine ⟨rfl, fun h => (nomatch h), fun u hu => ?_, fun b' o hb j u hj => ?_⟩
  · simp only [List.mem_cons, List.not_mem_nil, or_false] at hu
    rcases hu with rfl | rfl <;> rfl
  · cases hb
    exact cK h (by rw [Nat.zero_add]; exact hj)
theorem slT {w0 w : World} {F : Nat → Prop} {L : List HP} {a : Option Addr} {n c : Nat} {xs : List ST} (hs : St w0 F w L) (h : RowT a n c xs ∈ L) (hok : ∀ x ∈ xs, okT x) : Sl dStp All w a n c xs := (RowV.slF (d := dStp) (hs.all _ h) (by decide) hok).weak (fun _ _ => trivial)
theorem tZ {w : World} {a : Option Addr} {n c : Nat} {xs : List ST} {R : Nat → Prop} (h : Sl dStp R w a n c xs) : ∀ x ∈ xs, okT x := (h.srcF).2.2
theorem qA {w : World} {b e : Nat} {u0 u1 : Value} {fz : Nat × Nat} (hu : ∀ u ∈ [u0, u1], u.oneCell' = true) (h : w.heap[b]? = some (.cells #[u0, u1] e fz)) : Src w (some ⟨b, 0, none⟩) 1 2 [u0, u1] := by
  refine ⟨rfl, fun h => (nomatch h), hu, fun b' o hb j u hj => ?_⟩
  cases hb
  exact cK h (by rw [Nat.zero_add]; exact hj)
theorem vF {w0 w : World} {F : Nat → Prop} {L : List HP} {b o n c e sz bv : Nat} {X : List Value} {ob : Obj} (hs : St w0 F w (Row (some ⟨b, o, none⟩) n c e sz X :: Blk bv ob :: L)) : bv ≠ b := fun h => by
  subst h
  exact (List.pairwise_cons.1 hs.sep).1 _ List.mem_cons_self bv rfl rfl
theorem overH_r (w : World) (bv b q lb cb tv e : Nat) (cv cur : Array Value) (hbv : w.heap[bv]? = some (.cells cv tv (0, 0))) (hb : w.heap[b]? = some (.cells cur e (0, 0))) (hne : bv ≠ b) (hc : cur.size ≠ 0) :
    RetV Tryz.prog (.func (.func 222) #[] #[]) #[.slice (some ⟨bv, 0, none⟩) 1 1, .slice (some ⟨b, q, none⟩) lb cb] w (fun v w' => v = .bool false ∧ Ext w w') := by
  refine RetV.ext (v := .bool false) ?_ ⟨rfl, Ext.refl _⟩
  rw [run_callFunc_extern Tryz.func222 (by kernel_rfl) (by kernel_rfl) (by kernel_rfl) (e := Extern.SlicesOverlaps.overlaps #[77, 77] #[4]) (by kernel_rfl),
    Lib.run_overlaps_apart w 77 4 93 Tryz.underlying77 2 Tryz.sizeOf93 ⟨bv, 0, none⟩ ⟨b, q, none⟩ 1 1 lb cb hne tv e cv.size cur.size (by simp [World.shape?, hbv]) (by simp [World.shape?, hb]) hc (by simp [World.frozen?, hbv]) (by simp [World.frozen?, hbv])]
  rfl
theorem iQ {a : Option Addr} {n c e sz k : Nat} {xs : List Value} (h : (Star [Row a n c e sz xs]).foot k) : dN a k := by
  obtain ⟨d, hd, hk⟩ := h
  rw [List.mem_singleton.1 hd] at hk
  exact hk
theorem nW {α : Type} {l : List α} {k : Nat} {x : α} (p : α → Bool) (hx : l[k]? = some x) : (l.take (k + 1)).filter (fun x => !p x) = (l.take k).filter (fun x => !p x) ++ if p x then [] else [x] := by
  rw [List.take_add_one, hx, List.filter_append]
  congr 1
  by_cases h : p x = true
  · simp [h]
  · simp [h]
theorem one_encT (xs : List ST) : ∀ u ∈ encL cT xs, u.oneCell' = true := fun u hu => by
  obtain ⟨x, _, hx⟩ := List.mem_flatMap.1 hu
  simp only [List.mem_cons, List.not_mem_nil, or_false] at hx
  rcases hx with rfl | rfl <;> rfl
attribute [local irreducible] Hold J JL JD JX JXat OpR OpG Ret RetV Is Blk Row
set_option maxRecDepth 100000
set_option maxHeartbeats 1000000
theorem indexT_r (w : World) (a : Option Addr) (n c : Nat) (xs : List ST) (x : ST) (h : Sl dStp All w a n c xs) :
    Ret Tryz.prog 227 #[.slice a n c, .agg (cT x).toArray] w fun v w' => ∃ i : Int, (0 ≤ i ↔ x ∈ xs) ∧ v = .int .i64 i ∧ Ext w w' := by
  refine cG (l := [_, _]) Tryz.func227 rfl Tryz.ntmps227 (by simp) ?_
  have hs := St.init w
  have hl := h.len
  have hmx : n ≤ 9223372036854775807 := by have h3 := h.le; have h4 := h.cap; unfold maxLen at h4; omega
  repeat' (first | (apply aR) | ((apply aI); (first | (apply aQ; exact aH rfl aA) | (apply aF; exact aB rfl aA) | (apply bL; exact bY rfl aA)); first | (exact rfl; exact rfl) | exact rfl) | (apply bB) | (apply aG) | (apply bC) | (apply aL (t := 3); refine JL_o (by apply cD; exact bG hs rfl) rfl rfl ?_; rintro _ _ ⟨b3, rfl, hb3, hs, hE⟩))
  refine dG (α := Nat) [(0, _), (3, _), (7, _)] (fun k => [(8, .int .i64 k)]) (fun k w' => St w NoF w' [Blk b3 (.cells #[.int .u64 x.1, .int .i64 x.2] 93 (0, 0))] ∧ k ≤ n ∧ x ∉ xs.take k) (fun k => n - k) 0 ⟨hs, Nat.zero_le _, (by simp)⟩ zss ?_
  rintro k w2 ⟨hs1, hk, hno⟩ ih
  have hs : St w NoF w2 [_] := hs1
  by_cases hlt : k < n
  · obtain ⟨p, o, rfl⟩ := h.sl.addr (by omega)
    have hs : St w NoF w2 [_] := hs1
    have hx : xs[k]? = some (xs[k]'(by omega)) := List.getElem?_eq_getElem (by omega)
    obtain ⟨y, hyd⟩ : ∃ y, y = xs[k]'(by omega) := ⟨_, rfl⟩
    rw [← hyd] at hx
    by_cases hc : x = y
    · have hc2 : decide (x.1 = y.1 ∧ x.2 = y.2) = true := decide_eq_true (st_eq.2 hc)
      repeat' (first | (apply aR) | ((first | (apply aI) | (apply JX_f; exact rfl; intro W X hs)); (first | (apply aV; first | exact aU hs rfl rfl aA | exact aJ hs rfl aA | exact bI (h.st hs) hx rfl rfl aA) | (apply aQ; exact aH rfl aA) | (apply aF; exact aB rfl aA) | (apply aK; first | exact zC rfl rfl aA | exact aM rfl rfl rfl aA) | (apply aO; exact aN rfl rfl (by omega) (by omega) aA)); first | (exact rfl; exact rfl) | exact rfl) | (apply bB) | (apply aG) | (apply bC) | (apply bJ) | (apply aS; first | refine bF rfl ob ?_ | refine bZ rfl gb ?_) | (apply dB; (refine dE (id := 4) [0, 0, 0, 6, 14, 31] [(0, 0), (1, 0), (2, 0), (3, 0), (4, 0), (5, 0)] [] hs eI (by kernel_rfl) (by kernel_rfl) (by kernel_rfl) (by kernel_rfl) (by kernel_rfl) ?_)) | (refine dA (fun W hs => ?_)) | (apply dP))
      refine aY Tryz.func227 rfl (.tmp rfl .nil) ⟨k, ⟨fun _ => hc ▸ List.mem_of_getElem? hx, fun _ => by omega⟩, rfl, hs.frm.ext⟩
    · have hc2 : decide (x.1 = y.1 ∧ x.2 = y.2) = false := decide_eq_false (fun e => hc (st_eq.1 e))
      repeat' (first | (apply aR) | ((first | (apply aI) | (apply JX_f; exact rfl; intro W X hs)); (first | (apply aV; first | exact aU hs rfl rfl aA | exact aJ hs rfl aA | exact bI (h.st hs) hx rfl rfl aA) | (apply aQ; exact aH rfl aA) | (apply aF; exact aB rfl aA) | (apply cJ; exact bR rfl rfl (by omega) (by first | (simp only [Int.reduceAdd]; exact rfl) | exact rfl) aA) | (apply aK; first | exact zC rfl rfl aA | exact aM rfl rfl rfl aA) | (apply aO; exact aN rfl rfl (by omega) (by omega) aA)); first | (exact rfl; exact rfl) | exact rfl) | (apply bB) | (apply aG) | (apply bC) | (apply bN) | (apply bJ) | (apply aS; first | refine bF rfl ob ?_ | refine bV rfl gb ?_) | (apply dB; (refine dE (id := 4) [0, 0, 0, 6, 14, 31] [(0, 0), (1, 0), (2, 0), (3, 0), (4, 0), (5, 0)] [] hs eI (by kernel_rfl) (by kernel_rfl) (by kernel_rfl) (by kernel_rfl) (by kernel_rfl) ?_)) | (refine dA (fun W hs => ?_)) | (apply dP))
      refine ih (k + 1) _ _ ⟨hs, hlt, fun hm => ?_⟩ (by omega) zss
      rw [List.take_add_one, hx] at hm
      rcases List.mem_append.1 hm with e | e
      · exact hno e
      · exact hc (by simpa using e)
  · rw [List.take_of_length_le (by omega)] at hno
    repeat' (first | (apply aR) | ((apply aI); (first | (apply aF; exact aB rfl aA) | (apply aK; exact aM rfl rfl rfl aA)); first | (exact rfl; exact rfl) | exact rfl) | (apply bB) | (apply aG) | (apply cI; refine cZ rfl ?_) | (apply aS; refine bK rfl ob ?_))
    refine aY Tryz.func227 rfl (.tmp rfl .nil) ⟨-1, ⟨fun e => absurd e (by decide), fun e => absurd e hno⟩, rfl, hs.frm.ext⟩
theorem qT (w : World) (a : Option Addr) (n c : Nat) (xs : List ST) (x : ST) (h : Sl dStp All w a n c xs) :
    Ret Tryz.prog 184 #[.slice a n c, .agg (cT x).toArray] w fun v w' => v = .bool (decide (x ∈ xs)) ∧ Ext w w' := by
  refine cG (l := [_, _]) Tryz.func184 rfl Tryz.ntmps184 (by simp) ?_
  have hs := St.init w
  repeat' (first | ((apply aW 227; refine JL_o (by exact aC en227 rfl (indexT_r _ a n c xs x (h.st hs))) rfl rfl ?_; rintro _ _ ⟨i, hi, rfl, hE⟩; have hs := hs.ext hE; (try simp only [zcc] at hs))) | (apply aR) | ((apply aI); (first | (apply aQ; exact aH rfl aA) | (apply aF; exact aB rfl aA) | (apply aV; exact aJ hs rfl aA) | (apply aK; exact aM rfl rfl rfl aA)); first | (exact rfl; exact rfl) | exact rfl) | (apply bB) | (apply aG) | (apply aL (t := 3); refine JL_o (by apply cD; exact bG hs rfl) rfl rfl ?_; rintro _ _ ⟨b3, rfl, hb3, hs, hE⟩))
  refine aY Tryz.func184 rfl (.tmp rfl .nil) ⟨congrArg Value.bool (by rw [decide_eq_decide]; exact hi), hs.frm.ext⟩
theorem insT_r (w : World) (a : Option Addr) (n c i : Nat) (cells : List Value) (u0 u1 : Value) (bv : Nat) (hh : Held w [Row a n c 93 2 cells, Blk bv (.cells #[u0, u1] 93 (0, 0))]) (hi : i ≤ n) (hn : n ≤ 1000000) (h1 : ∀ u ∈ cells, u.oneCell' = true) (hu : ∀ u ∈ [u0, u1], u.oneCell' = true) :
    Ret Tryz.prog 173 #[.slice a n c, .int .i64 i, .slice (some ⟨bv, 0, none⟩) 1 1] w fun v w' => ∃ a' c', v = .slice a' (n + 1) c' ∧ Turn w [Row a n c 93 2 cells, Blk bv (.cells #[u0, u1] 93 (0, 0))] w' [Row a' (n + 1) c' 93 2 (cells.take (i * 2) ++ [u0, u1] ++ cells.drop (i * 2))] := by
  refine cG (l := [_, _, _]) Tryz.func173 rfl Tryz.ntmps173 (by simp) ?_
  have hs := hh.st
  have hrow := hs.row a n c
  have hl := hrow.len
  have hcap := hrow.2.1
  have hcm := hrow.2.2.1
  unfold maxLen at hcm
  by_cases hin : i = n
  · subst hin
    rw [List.take_of_length_le (by omega), List.drop_of_length_le (by omega), List.append_nil]
    repeat' (first | ((apply aL (t := 25); refine JL_o (by apply dO; exact fJ (xs := cells) (news := [u0, u1]) hs rfl rfl (qA hu (hs.blk (b := bv))) fF rfl (by omega) (by unfold maxLen; omega)) rfl rfl ?_; rintro _ _ ⟨a4, c4, rfl, hs, hF, hnil⟩)) | (apply aR) | ((apply aI); (first | (apply eC; exact eH (kl := .i64) (kh := .i64) (km := .i64) (l := (i : Nat)) (m := c) (h := (i : Nat)) rfl (.inr ⟨_, rfl, rfl⟩) (.inl ⟨rfl, rfl, rfl⟩) (.inl ⟨rfl, rfl⟩) (by omega) (by omega) (by omega) (by omega) rfl aA) | (apply aQ; exact aH rfl aA) | (apply aF; exact aB rfl aA) | (apply aK; exact aM rfl rfl rfl aA) | (apply bL; exact bY rfl aA)); first | (exact rfl; exact rfl) | exact rfl) | (apply bB) | (apply aG) | (apply bJ) | (apply aS; first | refine bF rfl ob ?_ | refine bK rfl ob ?_))
    refine aY Tryz.func173 rfl (.tmp rfl .nil) ⟨a4, c4, rfl, St.turned (M := [_]) hs⟩
  · obtain ⟨b, o, rfl⟩ := hrow.some (by omega)
    obtain ⟨g, o', cur, hgo, hg, hgs, hgt⟩ := hrow.2.2.2.resolve_left (fun h => by cases h.1)
    cases hgo
    by_cases hroom : n + 1 ≤ c
    · have hov : (n + 1 - (i + 1)) = n - i := by omega
      repeat' (first | ((apply aL (t := 60); obtain ⟨ys, hyl, hs⟩ := hs.growRow (n + 1) (by omega) (by omega); refine aI (v := .slice (some ⟨b, o, none⟩) (n + 1) c) (by apply eC; exact eS (q := n + 1) rfl rfl (by omega) (by omega) aA) rfl rfl ?_)) | ((apply aL (t := 67); obtain ⟨g2, o2, cur2, hgo2, hg2, hgs2, hgt2⟩ := (hs.row (some ⟨b, o, none⟩) (n + 1) c).2.2.2.resolve_left (fun h => by cases h.1); cases hgo2; refine JL_o (rC rfl rfl (overH_r _ bv b _ _ _ 93 93 _ cur2 (hs.blk (b := bv)) hg2 (vF hs) (by omega))) rfl rfl ?_; rintro _ _ ⟨rfl, hE⟩; have hs := hs.ext hE)) | ((apply aL (t := 77); refine JL_o (by apply fW; exact fY (sz := 2) (off := i + 1) (vs := cells.drop (i * 2)) (a := some ⟨b, o, none⟩) (n := n + 1) (c := c) (by omega) hs rfl rfl (fun _ => by simp [eA]) (by omega) (by rw [show min (n + 1 - i) (n + 1 - (i + 1)) = n - i by omega]; have := (hs.row (some ⟨b, o, none⟩) (n + 1) c).srcDrop i (n - i) (zs := cells.drop (i * 2)) (by rw [List.drop_append_of_le_length (by omega), List.take_append_of_le_length (by rw [List.length_drop]; omega), List.take_of_length_le (by rw [List.length_drop]; omega)]) (fun u hu => h1 u (List.mem_of_mem_drop hu)) (by omega) (by omega); simpa [eA] using this) fF) rfl rfl ?_; rintro _ _ ⟨rfl, hs, hF⟩)) | ((apply aL (t := 82); refine JL_o (by apply fW; exact fY (sz := 2) (off := i) (vs := [u0, u1]) (a := some ⟨b, o, none⟩) (n := n + 1) (c := c) (by omega) hs rfl rfl (fun _ => by simp [eA]) (by omega) (by rw [show min 1 (n + 1 - i) = 1 by omega]; exact qA hu (hs.blk (b := bv))) fF) rfl rfl ?_; rintro _ _ ⟨rfl, hs, hF⟩)) | (apply aR) | ((first | (apply aI) | (apply JX_f; exact rfl; intro W X hs)); (first | (apply nD; exact rB rfl aA) | (apply eC; first | exact gB (q := i) rfl rfl (by omega) (by omega) (by omega) (by omega) aA | exact gB (q := i + 1) rfl rfl (by omega) (by omega) (by omega) (by omega) aA | exact eS (q := i) rfl rfl (by omega) (by omega) aA) | (apply aQ; exact aH rfl aA) | (apply aF; exact aB rfl aA) | (apply cJ; exact bR rfl rfl (by omega) (by first | (simp only [Int.reduceAdd]; exact rfl) | exact rfl) aA) | (apply aK; exact aM rfl rfl rfl aA) | (apply cB; exact cE rfl aA) | (apply bL; exact bY rfl aA)); first | (exact rfl; exact rfl) | exact rfl) | (apply bB) | (apply aG) | (apply bJ) | (apply aS; first | refine bK rfl ob ?_ | refine bZ rfl gb ?_) | (apply dB; (refine dE (id := 15) [0, 0, 0, 6, 15, 0, 0, 96, 255] [(0, 0), (1, 0), (2, 0), (3, 0), (4, 0), (5, 0), (6, 0), (7, 0)] [8] hs eI (by kernel_rfl) (by kernel_rfl) (by kernel_rfl) (by kernel_rfl) (by kernel_rfl) ?_)) | (refine dA (fun W hs => ?_)) | (apply fS; case' hos => (simp only [List.map_cons, List.map_nil, List.getElem?_toArray, List.getElem?_cons_succ, List.getElem?_cons_zero]; repeat' (first | exact gZ | apply fQ))))
      rw [rP (by omega) rfl (by omega) (by rw [hyl]; omega)] at hs
      refine aY Tryz.func173 rfl (.tmp rfl .nil) ⟨_, c, rfl, St.turned (M := [_]) hs⟩
    · have hcn : c = n := by omega
      subst hcn
      repeat' (first | ((apply aL (t := 40); refine JL_o (by apply dO; exact oK (sz := 2) (kn := .i64) (kq := .i64) (a := some ⟨b, o, none⟩) (n := c) (c := c) (i := i) (k := c + 1 - i) hs rfl (by rw [show ((c + 1 - i : Nat) : Int) = (c : Int) + 1 - (i : Int) by omega]; rfl) (by omega) (by omega) (by omega) (by omega) rfl (by omega) (by unfold maxLen; omega)) rfl rfl ?_; rintro _ _ ⟨b4, c4, zs, rfl, hzl, hs, hE⟩; have hc4 := (hs.row (some ⟨b4, 0, none⟩) (i + (c + 1 - i)) c4).2.1)) | ((apply aL (t := 45); refine JL_o (by apply fW; exact fY (sz := 2) (off := i) (vs := [u0, u1]) (a := some ⟨b4, 0, none⟩) (n := i + (c + 1 - i)) (c := c4) (by omega) hs rfl rfl (fun _ => by simp [eA]) (by omega) (by rw [show min 1 (i + (c + 1 - i) - i) = 1 by omega]; exact qA hu (hs.blk (b := bv))) fF) rfl rfl ?_; rintro _ _ ⟨rfl, hs, hF⟩)) | ((apply aL (t := 54); refine JL_o (by apply fW; exact fY (sz := 2) (off := i + 1) (vs := cells.drop (i * 2)) (a := some ⟨b4, 0, none⟩) (n := i + (c + 1 - i)) (c := c4) (by omega) hs rfl rfl (fun _ => by simp [eA]) (by omega) (by rw [show min (c - i) (i + (c + 1 - i) - (i + 1)) = c - i by omega]; have := (hs.row (some ⟨b, o, none⟩) c c).srcDrop i (c - i) (zs := cells.drop (i * 2)) (by rw [List.take_of_length_le (by rw [List.length_drop]; omega)]) (fun u hu => h1 u (List.mem_of_mem_drop hu)) (by omega) (by omega); simpa [eA] using this) fF) rfl rfl ?_; rintro _ _ ⟨rfl, hs, hF⟩)) | (apply aR) | ((first | (apply aI) | (apply JX_f; exact rfl; intro W X hs)); (first | (apply nD; exact rB rfl aA) | (apply eC; first | exact gB (q := i) rfl rfl (by omega) (by omega) (by omega) (by omega) aA | exact gB (q := i + 1) rfl rfl (by omega) (by omega) (by omega) (by omega) aA | exact eS (q := i) rfl rfl (by omega) (by omega) aA) | (apply aQ; exact aH rfl aA) | (apply aF; exact aB rfl aA) | (apply cJ; exact bR rfl rfl (by omega) (by first | (simp only [Int.reduceAdd]; exact rfl) | exact rfl) aA) | (apply dZ; exact dI rfl rfl (by omega) aA) | (apply aK; exact aM rfl rfl rfl aA) | (apply bL; exact bY rfl aA)); first | (exact rfl; exact rfl) | exact rfl) | (apply bB) | (apply aG) | (apply bJ) | (apply aS; first | refine bF rfl ob ?_ | refine bK rfl ob ?_) | (apply dB; (refine dE (id := 11) [0, 0, 0, 6, 15, 0, 0, 96, 255] [(0, 0), (1, 0), (2, 0), (3, 0), (4, 0), (5, 0), (6, 0), (7, 0)] [8] hs eI (by kernel_rfl) (by kernel_rfl) (by kernel_rfl) (by kernel_rfl) (by kernel_rfl) ?_)) | (refine dA (fun W hs => ?_)) | (apply fS; case' hos => (simp only [List.map_cons, List.map_nil, List.getElem?_toArray, List.getElem?_cons_succ, List.getElem?_cons_zero]; repeat' (first | exact gZ | apply fQ))))
      rw [uZ (by rw [List.length_take]; omega) rfl (by omega) (by rw [List.length_drop, hzl]; omega), show i + (c + 1 - i) = c + 1 by omega] at hs
      refine aY Tryz.func173 rfl (.tmp rfl .nil) ⟨_, c4, by rw [show i + (c + 1 - i) = c + 1 by omega]; rfl, St.turned (M := [_, _]) hs⟩
theorem idxFT_r (w : World) (a : Option Addr) (n c : Nat) (xs : List ST) (h : Sl dStp All w a n c xs) (hn : n ≤ 4000000) (g : FuncId) (cap : Array Value) (eg : cA Tryz.prog g) (pr : ST → Bool) (hcall : ∀ W, (∀ k, k < w.heap.size → W.heap[k]? = w.heap[k]?) → ∀ x ∈ xs, Ret Tryz.prog g (#[.agg (cT x).toArray] ++ cap) W (fun v w' => v = .bool (pr x) ∧ Ext W w')) :
    Ret Tryz.prog 181 #[.slice a n c, .func (.func g) #[] cap] w fun v w' => ((v = .int .i64 (-1) ∧ xs.filter (fun x => !pr x) = xs) ∨ ∃ (k : Nat) (x : ST), v = .int .i64 (k : Nat) ∧ xs[k]? = some x ∧ pr x = true ∧ (xs.take k).filter (fun x => !pr x) = xs.take k) ∧ Ext w w' := by
  refine cG (l := [_, _]) Tryz.func181 rfl Tryz.ntmps181 (by simp) ?_
  have hs := St.init w
  have hl := h.len
  repeat' (first | (apply aR) | ((apply aI); (first | (apply aQ; exact aH rfl aA) | (apply aF; exact aB rfl aA) | (apply bL; exact bY rfl aA)); first | (exact rfl; exact rfl) | exact rfl) | (apply bB) | (apply aG) | (apply bC))
  refine dG (α := Nat) [(0, _), (1, _), (7, _)] (fun k => [(8, .int .i64 k)]) (fun k w' => St w NoF w' [] ∧ k ≤ n ∧ (xs.take k).filter (fun x => !pr x) = xs.take k) (fun k => n - k) 0 ⟨hs, by omega, rfl⟩ zss ?_
  rintro k w' ⟨hs1, hk, hf⟩ ih
  have hs : St w NoF w' [] := hs1
  by_cases hlt : k < n
  · obtain ⟨p1, o1, rfl⟩ := h.sl.addr (by omega)
    have hx : xs[k]? = some (xs[k]'(by omega)) := List.getElem?_eq_getElem (by omega)
    obtain ⟨x, hxd⟩ : ∃ x, x = xs[k]'(by omega) := ⟨_, rfl⟩
    rw [← hxd] at hx
    have hks := nW pr hx
    obtain ⟨pb, hpb⟩ : ∃ pb, pb = pr x := ⟨_, rfl⟩
    cases pb with
    | false =>
      rw [← hpb, if_neg (by decide), hf] at hks
      repeat' (first | ((apply aL (t := 16); refine JL_o (cH rfl rfl (Ret.value (cap := cap) eg (hcall _ (fun k hk => hs.frm.old k hk id) x (List.mem_of_getElem? hx)))) rfl rfl ?_; rintro _ _ ⟨rfl, hE⟩; have hs := hs.ext hE; rw [← hpb])) | (apply aR) | ((apply aI); (first | (apply aV; exact bI (h.st hs) hx rfl rfl aA) | (apply aQ; exact aH rfl aA) | (apply aF; exact aB rfl aA) | (apply cJ; exact bR rfl rfl (by omega) (by first | (simp only [Int.reduceAdd]; exact rfl) | exact rfl) aA) | (apply aK; exact aM rfl rfl rfl aA) | (apply aO; exact aN rfl rfl (by omega) (by omega) aA)); first | (exact rfl; exact rfl) | exact rfl) | (apply bB) | (apply aG) | (apply bC) | (apply bN) | (apply bJ) | (apply aS; first | refine bF rfl ob ?_ | refine bV rfl gb ?_))
      refine ih (k + 1) _ _ ⟨hs, by omega, by rw [hks, List.take_add_one, hx]; rfl⟩ (by omega) zss
    | true =>
      repeat' (first | ((apply aL (t := 16); refine JL_o (cH rfl rfl (Ret.value (cap := cap) eg (hcall _ (fun k hk => hs.frm.old k hk id) x (List.mem_of_getElem? hx)))) rfl rfl ?_; rintro _ _ ⟨rfl, hE⟩; have hs := hs.ext hE; rw [← hpb])) | (apply aR) | ((apply aI); (first | (apply aV; exact bI (h.st hs) hx rfl rfl aA) | (apply aQ; exact aH rfl aA) | (apply aF; exact aB rfl aA) | (apply aK; exact aM rfl rfl rfl aA) | (apply aO; exact aN rfl rfl (by omega) (by omega) aA)); first | (exact rfl; exact rfl) | exact rfl) | (apply bB) | (apply aG) | (apply bC) | (apply bJ) | (apply aS; first | refine bF rfl ob ?_ | refine bZ rfl gb ?_))
      refine aY Tryz.func181 rfl (.tmp rfl .nil) ⟨.inr ⟨k, x, rfl, hx, hpb.symm, hf⟩, hs.frm.ext⟩
  · have e : xs.take k = xs := List.take_of_length_le (by omega)
    rw [e] at hf
    repeat' (first | (apply aR) | ((apply aI); (first | (apply aF; exact aB rfl aA) | (apply aK; exact aM rfl rfl rfl aA)); first | (exact rfl; exact rfl) | exact rfl) | (apply bB) | (apply aG) | (apply cI; refine cZ rfl ?_) | (apply aS; refine bK rfl ob ?_))
    refine aY Tryz.func181 rfl (.tmp rfl .nil) ⟨.inl ⟨rfl, hf⟩, hs.frm.ext⟩
theorem mH (w : World) (a : Option Addr) (n c : Nat) (xs : List ST) (hh : Held w [Row a n c 93 2 (encL cT xs)]) (hok : ∀ x ∈ xs, okT x) (hn : n ≤ 4000000) (g : FuncId) (cap : Array Value) (eg : cA Tryz.prog g) (pr : ST → Bool) (hcall : ∀ W, (∀ k, k < w.heap.size → ¬ dN a k → W.heap[k]? = w.heap[k]?) → ∀ x ∈ xs, Ret Tryz.prog g (#[.agg (cT x).toArray] ++ cap) W (fun v w' => v = .bool (pr x) ∧ Ext W w')) :
    Ret Tryz.prog 109 #[.slice a n c, .func (.func g) #[] cap] w fun v w' => v = .slice a (xs.filter (fun x => !pr x)).length c ∧ Turn w [Row a n c 93 2 (encL cT xs)] w' [Row a (xs.filter (fun x => !pr x)).length c 93 2 (encL cT (xs.filter (fun x => !pr x)))] := by
  refine cG (l := [_, _]) Tryz.func109 rfl Tryz.ntmps109 (by simp) ?_
  have hs := hh.st
  have hrow := hs.row a n c
  have hlE := hrow.len
  have hlen : xs.length = n := by
    have := eW (d := dStp) xs
    rw [hlE] at this
    exact (Nat.eq_of_mul_eq_mul_right (by decide) this).symm
  have hsl : Sl dStp All w a n c xs := (RowV.slF (d := dStp) hrow (by decide) hok).weak (fun _ _ => trivial)
  have hcap := hrow.2.1
  repeat' (first | ((apply aL (t := 10); refine JL_o (aC en181 rfl (idxFT_r _ a n c xs hsl hn g cap eg pr (fun W hW x hx => hcall W (fun k hk _ => hW k hk) x hx))) rfl rfl ?_; rintro _ _ ⟨⟨rfl, hf⟩ | ⟨k, r, rfl, hx, hr, hf⟩, hE⟩ <;> have hs := hs.ext hE <;> (try (have hkn : k < n := by rw [← hlen]; exact (List.getElem?_eq_some_iff.1 hx).1)))) | (apply aR) | ((apply aI); (first | (apply aQ; exact aH rfl aA) | (apply aF; exact aB rfl aA) | (apply cJ; exact bR rfl rfl (by omega) (by first | (simp only [Int.reduceAdd]; exact rfl) | exact rfl) aA) | (apply aK; exact aM rfl rfl rfl aA)); first | (exact rfl; exact rfl) | exact rfl) | (apply bB) | (apply aG) | (apply bC) | (apply bJ) | (apply aS; first | refine bF rfl ob ?_ | refine bK rfl ob ?_))
  · rw [hf, hlen]
    refine aY Tryz.func109 rfl (.tmp rfl .nil) ⟨rfl, St.turned (M := []) hs⟩
  have hf1 : (xs.take (k + 1)).filter (fun x => !pr x) = xs.take k := by rw [nW pr hx, hr, if_pos rfl, hf, List.append_nil]
  have hs0 : St w (Star [Row a n c 93 2 (encL cT xs)]).foot _ [Row a n c 93 2 (encL cT xs)] := hs
  refine dG (α := Nat × Nat × List ST) [(0, _), (1, _)] (fun g => [(5, .int .i64 g.1), (6, .int .i64 g.2.1)]) (fun g w' => St w (Star [Row a n c 93 2 (encL cT xs)]).foot w' [Row a n c 93 2 (encL cT g.2.2)] ∧ (g.1 < g.2.1 ∧ g.2.1 ≤ n) ∧ g.2.2.length = n ∧ g.2.2.take g.1 = (xs.take g.2.1).filter (fun x => !pr x) ∧ g.2.2.drop g.2.1 = xs.drop g.2.1) (fun g => n - g.2.1) (k, k + 1, xs) ⟨hs0, ⟨by dsimp only; omega, by dsimp only; omega⟩, hlen, hf1.symm, rfl⟩ zss ?_
  rintro ⟨i, j, cur⟩ w2 ⟨hs1, ⟨hij, hj⟩, hcl, ht, hd⟩ ih
  dsimp only at hs1 hij hj hcl ht hd ih ⊢
  obtain ⟨b, o, rfl⟩ := (hs1.row a n c).some (by omega)
  have hs : St w (Star [Row (some ⟨b, o, none⟩) n c 93 2 (encL cT xs)]).foot w2 [Row (some ⟨b, o, none⟩) n c 93 2 (encL cT cur)] := hs1
  by_cases hlt : j < n
  · have hx2 : xs[j]? = some (xs[j]'(by omega)) := List.getElem?_eq_getElem (by omega)
    obtain ⟨r2, hrd⟩ : ∃ r, r = xs[j]'(by omega) := ⟨_, rfl⟩
    rw [← hrd] at hx2
    have hc2 : cur[j]? = some r2 := by
      have : (cur.drop j)[0]? = (xs.drop j)[0]? := by rw [hd]
      rw [List.getElem?_drop, List.getElem?_drop, Nat.add_zero] at this
      rw [this]; exact hx2
    have hld : ∀ (q : Nat) (u : Value), (cT r2)[q]? = some u → (encL cT cur)[j * 2 + q]? = some u := fun q u hq => by
      have hq3 : q < 2 := (List.getElem?_eq_some_iff.1 hq).1
      rw [show (encL cT cur)[j * 2 + q]? = (cT r2)[q]? from eX (d := dStp) cur j q r2 hc2 hq3]; exact hq
    have hdj : cur.drop (j + 1) = xs.drop (j + 1) := by
      have : (cur.drop j).drop 1 = (xs.drop j).drop 1 := by rw [hd]
      rwa [List.drop_drop, List.drop_drop] at this
    have hft := nW pr hx2
    obtain ⟨pb, hpb⟩ : ∃ pb, pb = pr r2 := ⟨_, rfl⟩
    cases pb with
    | false =>
      rw [← hpb, if_neg (by decide), ← ht] at hft
      have hset : encL cT (cur.set i r2) = bQ (encL cT cur) (i * 2) (cT r2) := jZ (d := dStp) cur i r2 (by omega)
      repeat' (first | ((apply aL (t := 28); refine JL_o (cH rfl rfl (Ret.value (cap := cap) eg (hcall _ (fun k hk hf => hs.frm.old k hk (fun h => hf (iQ h))) r2 (List.mem_of_getElem? hx2)))) rfl rfl ?_; rintro _ _ ⟨rfl, hE⟩; have hs := hs.ext hE; rw [← hpb])) | ((apply bH; refine JL_u (by apply bA; exact dJ (b := b) (o := o) (off := i * 2) (n := n) (c := c) (vs := cT r2) hs rfl rfl rfl rfl (fun u hu => by simp only [List.mem_cons, List.not_mem_nil, or_false] at hu; rcases hu with rfl | rfl <;> rfl) (by show i * 2 + 2 ≤ n * 2; omega)) rfl ?_; rintro _ _ ⟨hs, hF⟩; rw [← hset] at hs)) | (apply aR) | ((apply aI); (first | (apply aV; first | exact iL (off := j * 2) (n := n) (c := c) hs rfl rfl hld aA | exact aJ hs rfl aA) | (apply aQ; exact aH rfl aA) | (apply aF; exact aB rfl aA) | (apply cJ; exact bR rfl rfl (by omega) (by first | (simp only [Int.reduceAdd]; exact rfl) | exact rfl) aA) | (apply aK; exact aM rfl rfl rfl aA) | (apply cB; exact cE rfl aA) | (apply bL; exact bY rfl aA) | (apply aO; exact aN rfl rfl (by omega) (by omega) aA)); first | (exact rfl; exact rfl) | exact rfl) | (apply bB) | (apply aG) | (apply bC) | (apply bN) | (apply bJ) | (apply aL (t := 7); refine JL_o (by apply bE; exact aX hs) rfl rfl ?_; rintro _ _ ⟨b7, rfl, hb7, hs, hE⟩) | (apply bH; refine JL_u (by apply bA; exact aZ hs rfl rfl rfl) rfl ?_; rintro _ _ ⟨hs, hF⟩) | (apply aS; first | refine bF rfl ob ?_ | refine bZ rfl gb ?_))
      refine ih (i + 1, j + 1, cur.set i r2) _ _ ⟨hs.sel [1] (by decide), ⟨by dsimp only; omega, by dsimp only; omega⟩, by dsimp only; rw [List.length_set]; exact hcl, ?_, ?_⟩ (by dsimp only; omega) zss
      · dsimp only
        rw [hft, List.take_add_one, List.getElem?_set_self (by omega), List.take_set_of_le (Nat.le_refl _)]; rfl
      · dsimp only
        rw [List.drop_set_of_lt (by omega)]; exact hdj
    | true =>
      rw [← hpb, if_pos rfl, ← ht, List.append_nil] at hft
      repeat' (first | ((apply aL (t := 28); refine JL_o (cH rfl rfl (Ret.value (cap := cap) eg (hcall _ (fun k hk hf => hs.frm.old k hk (fun h => hf (iQ h))) r2 (List.mem_of_getElem? hx2)))) rfl rfl ?_; rintro _ _ ⟨rfl, hE⟩; have hs := hs.ext hE; rw [← hpb])) | (apply aR) | ((apply aI); (first | (apply aV; first | exact iL (off := j * 2) (n := n) (c := c) hs rfl rfl hld aA | exact aJ hs rfl aA) | (apply aQ; exact aH rfl aA) | (apply aF; exact aB rfl aA) | (apply cJ; exact bR rfl rfl (by omega) (by first | (simp only [Int.reduceAdd]; exact rfl) | exact rfl) aA) | (apply aK; exact aM rfl rfl rfl aA) | (apply cB; exact cE rfl aA) | (apply bL; exact bY rfl aA) | (apply aO; exact aN rfl rfl (by omega) (by omega) aA)); first | (exact rfl; exact rfl) | exact rfl) | (apply bB) | (apply aG) | (apply bC) | (apply bN) | (apply bJ) | (apply aL (t := 7); refine JL_o (by apply bE; exact aX hs) rfl rfl ?_; rintro _ _ ⟨b7, rfl, hb7, hs, hE⟩) | (apply bH; refine JL_u (by apply bA; exact aZ hs rfl rfl rfl) rfl ?_; rintro _ _ ⟨hs, hF⟩) | (apply aS; first | refine bF rfl ob ?_ | refine bV rfl gb ?_))
      refine ih (i, j + 1, cur) _ _ ⟨hs.sel [1] (by decide), ⟨by dsimp only; omega, by dsimp only; omega⟩, hcl, hft.symm, hdj⟩ (by dsimp only; omega) zss
  · have hjn : j = n := by omega
    subst hjn
    have htk : xs.take j = xs := List.take_of_length_le (by omega)
    rw [htk] at ht
    have hfl : (xs.filter (fun x => !pr x)).length = i := by rw [← ht, List.length_take]; omega
    have hcell : ∀ zs, (bQ (encL cT cur) (i * 2) zs).take (i * 2) = encL cT (xs.filter (fun x => !pr x)) := fun zs => by
      have := eW (d := dStp) cur
      rw [iE _ _ _ (by rw [this]; show i * 2 ≤ cur.length * 2; omega), ← ht]; exact (iI (d := dStp) cur i).symm
    rw [hfl]
    repeat' (first | ((apply aL (t := 38); refine aI (v := .slice (some ⟨b, o + i * 2, none⟩) (j - i) (c - i)) (by apply eC; exact gB (q := i) rfl rfl rfl (by omega) (by omega) (by omega) aA) rfl rfl ?_)) | ((apply bH; refine JL_u (by apply jM; exact kS (a := some ⟨b, o, none⟩) (off := i) (n := j) (c := c) (sz := 2) hs rfl rfl (by decide) (fun _ => by simp [eA]) (by omega)) rfl ?_; rintro _ _ ⟨rfl, ⟨zs, hzl, hs⟩, hF⟩)) | (apply aR) | ((apply aI); (first | (apply eC; exact eS (q := i) rfl rfl rfl (by omega) aA) | (apply aQ; exact aH rfl aA) | (apply aF; exact aB rfl aA) | (apply aK; exact aM rfl rfl rfl aA) | (apply bL; exact bY rfl aA)); first | (exact rfl; exact rfl) | exact rfl) | (apply bB) | (apply aG) | (apply cI; refine cZ rfl ?_) | (apply aS; refine bK rfl ob ?_))
    have hs := hs.cutRow i c (by omega) (by omega) (Nat.le_refl _)
    rw [hcell] at hs
    refine aY Tryz.func109 rfl (.tmp rfl .nil) ⟨rfl, St.turned (M := []) hs⟩
theorem sL (w : World) (a : Option Addr) (n c : Nat) (xs : List ST) (h : Sl dStp All w a n c xs) (hn : n ≤ 1000000) :
    Ret Tryz.prog 180 #[.slice a n c] w fun v w' => ∃ a', v = .slice a' n n ∧ Fresh w w' [RowT a' n n xs] := by
  refine cG (l := [_]) Tryz.func180 rfl Tryz.ntmps180 (by simp) ?_
  have hs := St.init w
  obtain ⟨hsrc, hpl, _⟩ := h.srcF
  have hl := h.len
  have hE0 : (encL cT xs).length = n * 2 := by have := eW (d := dStp) xs; rw [hl] at this; exact this
  repeat' (first | ((apply aL (t := 6); refine JL_o (by apply eZ; exact iX hs rfl rfl (by omega) (by omega)) rfl rfl ?_; rintro _ _ ⟨b8, rfl, hb8, hs, hE⟩; have hs := hs.toRow 0 n n 2 (Nat.le_refl _) (by unfold maxLen; omega) (by simp [madeCells]) rfl)) | ((apply aL (t := 9); refine JL_o (by apply fW; exact fY (sz := 2) (off := 0) (vs := encL cT xs) (a := some ⟨b8, 0, none⟩) (n := n) (c := n) (by omega) hs rfl rfl (fun _ => rfl) (by omega) (by rw [Nat.min_self]; exact Src.st hsrc hs) (by rw [Nat.min_self]; exact hpl)) rfl rfl ?_; rintro _ _ ⟨rfl, hs, hF⟩; rw [iF 2 (by rw [hE0]; simp [madeCells])] at hs)) | (apply aR) | ((apply aI); (first | (apply aQ; exact aH rfl aA) | (apply aF; exact aB rfl aA) | (apply bL; exact bY rfl aA)); first | (exact rfl; exact rfl) | exact rfl) | (apply bB) | (apply aG))
  refine aY Tryz.func180 rfl (.tmp rfl .nil) ⟨_, rfl, hs.out (List.Sublist.refl _)⟩
end Go.Eng
end
section
namespace Go.Eng
open Go.Proofs
set_option linter.unusedSimpArgs false
set_option linter.unusedVariables false
abbrev NM := Bool × List Int × List ST × List ST
abbrev jD : Ty NM := iZ uX (iZ (tSl dId) (iZ (tSl dStp) (tSl dStp)))
abbrev RNd := Bool × RS × RS × RS
abbrev dRNd : Ty RNd := iZ uX (iZ tS (iZ tS tS))
abbrev mNode : Rel RNd NM := mC (wZ Bool) (mC (tD dId) (mC (tD dStp) (tD dStp)))
abbrev cNd (p : RNd) : List Value := [.bool p.1, .slice p.2.1.1 p.2.1.2.1 p.2.1.2.2, .slice p.2.2.1.1 p.2.2.1.2.1 p.2.2.1.2.2, .slice p.2.2.2.1 p.2.2.2.2.1 p.2.2.2.2.2]
theorem flatNd : FlatTy dRNd cNd (fun _ => True ∧ True ∧ True ∧ True) :=
  (inferInstance : FlatTy (iZ uX (iZ tS (iZ tS tS))) (fun p => [.bool p.1] ++ ([.slice p.2.1.1 p.2.1.2.1 p.2.1.2.2] ++ ([.slice p.2.2.1.1 p.2.2.1.2.1 p.2.2.1.2.2] ++ [.slice p.2.2.2.1 p.2.2.2.2.1 p.2.2.2.2.2]))) (fun _ => True ∧ True ∧ True ∧ True))
instance (priority := high) : FlatTy dRNd cNd (fun _ => True ∧ True ∧ True ∧ True) := flatNd
theorem nN : RawTy jD dRNd mNode := inferInstance
abbrev TabN (a : Option Addr) (n c : Nat) (rs : List RNd) : HP := Row a n c 79 4 (encL cNd rs)
abbrev n0 : NM := (false, [], [], [])
abbrev QN := Bool × (RS × List Int) × (RS × List ST) × (RS × List ST)
abbrev rawN (q : QN) : RNd := (q.1, q.2.1.1, q.2.2.1.1, q.2.2.2.1)
abbrev iG (q : QN) : NM := (q.1, q.2.1.2, q.2.2.1.2, q.2.2.2.2)
abbrev row1 (q : QN) : HP := RowU q.2.1.1.1 q.2.1.1.2.1 q.2.1.1.2.2 q.2.1.2
abbrev row2 (q : QN) : HP := RowT q.2.2.1.1.1 q.2.2.1.1.2.1 q.2.2.1.1.2.2 q.2.2.1.2
abbrev row3 (q : QN) : HP := RowT q.2.2.2.1.1 q.2.2.2.1.2.1 q.2.2.2.1.2.2 q.2.2.2.2
def rowN (q : QN) : HP := Star [row1 q, row2 q, row3 q]
def OwnN (qs : List QN) : HP := Star (qs.map rowN)
def okN (q : QN) : Prop := (q.2.1.1.2.1 = q.2.1.2.length ∧ ∀ x ∈ q.2.1.2, okId x) ∧ (q.2.2.1.1.2.1 = q.2.2.1.2.length ∧ ∀ x ∈ q.2.2.1.2, okT x) ∧ (q.2.2.2.1.2.1 = q.2.2.2.2.length ∧ ∀ x ∈ q.2.2.2.2, okT x)
abbrev okNM (x : NM) : Prop := (∀ i ∈ x.2.1, okId i) ∧ (∀ s ∈ x.2.2.1, okT s) ∧ ∀ s ∈ x.2.2.2, okT s
section
variable {w0 w : World} {F : Nat → Prop} {L : List HP}
theorem St.nilN (h : St w0 F w L) : St w0 F w (OwnN [] :: L) := St.star (A := []) h
theorem St.packN {q : QN} (h : St w0 F w (row1 q :: row2 q :: row3 q :: L)) : St w0 F w (rowN q :: L) := St.star (A := [row1 q, row2 q, row3 q]) h
theorem St.unpackN {q : QN} (h : St w0 F w (rowN q :: L)) : St w0 F w (row1 q :: row2 q :: row3 q :: L) := St.unstar (A := [row1 q, row2 q, row3 q]) h
theorem St.pushN {qs : List QN} {q : QN} (h : St w0 F w (rowN q :: OwnN qs :: L)) : St w0 F w (OwnN (qs ++ [q]) :: L) := by
  have h1 : St w0 F w (OwnN qs :: rowN q :: L) := h.perm (.swap _ _ _)
  have h2 : St w0 F w (qs.map rowN ++ (rowN q :: L)) := St.unstar h1
  have h3 : St w0 F w ((qs ++ [q]).map rowN ++ L) := by rw [List.map_append, List.append_assoc]; exact h2
  exact St.star h3
theorem St.outN {q1 q2 : List QN} {q : QN} (h : St w0 F w (OwnN (q1 ++ q :: q2) :: L)) : St w0 F w (rowN q :: OwnN (q1 ++ q2) :: L) := by
  have h2 : St w0 F w ((q1 ++ q :: q2).map rowN ++ L) := St.unstar h
  have h3 : ((q1 ++ q :: q2).map rowN ++ L).Perm ((q1 ++ q2).map rowN ++ (rowN q :: L)) := by
    rw [List.map_append, List.map_append, List.map_cons]
    refine (List.Perm.append_right L (List.perm_middle)).trans ?_
    rw [List.cons_append]
    exact List.perm_middle.symm
  have h4 : St w0 F w (OwnN (q1 ++ q2) :: rowN q :: L) := St.star (h2.perm h3)
  exact h4.perm (.swap _ _ _)
theorem St.inN {q1 q2 : List QN} {q : QN} (h : St w0 F w (rowN q :: OwnN (q1 ++ q2) :: L)) : St w0 F w (OwnN (q1 ++ q :: q2) :: L) := by
  have h1 : St w0 F w (OwnN (q1 ++ q2) :: rowN q :: L) := h.perm (.swap _ _ _)
  have h2 : St w0 F w ((q1 ++ q2).map rowN ++ (rowN q :: L)) := St.unstar h1
  refine St.star (A := (q1 ++ q :: q2).map rowN) (h2.perm ?_)
  rw [List.map_append, List.map_append, List.map_cons]
  refine (List.perm_middle (l₁ := q1.map rowN ++ q2.map rowN) (l₂ := L) (a := rowN q)).trans ?_
  rw [← List.cons_append]
  exact (List.Perm.append_right L (List.perm_middle)).symm
theorem ownN_row {qs : List QN} (h : (OwnN qs).holds w) {q : QN} (hq : q ∈ qs) : (row1 q).holds w ∧ (row2 q).holds w ∧ (row3 q).holds w := by
  have h1 : (rowN q).holds w := h.1 _ (List.mem_map_of_mem hq)
  exact ⟨h1.1 _ (.head _), h1.1 _ (.tail _ (.head _)), h1.1 _ (.tail _ (.tail _ (.head _)))⟩
theorem meanN_of {qs : List QN} (h : (OwnN qs).holds w) (hok : ∀ q ∈ qs, okN q) : MeanV mNode All w (qs.map rawN) (qs.map iG) := by
  refine ⟨by simp, fun i r x hr hx => ?_⟩
  rw [List.getElem?_map] at hr hx
  cases hq : qs[i]? with
  | none => rw [hq] at hr; cases hr
  | some q =>
    rw [hq] at hr hx
    cases hr; cases hx
    have hm := List.mem_of_getElem? hq
    obtain ⟨⟨_, h1⟩, ⟨_, h2⟩, ⟨_, h3⟩⟩ := hok q hm
    obtain ⟨r1, r2, r3⟩ := ownN_row h hm
    exact ⟨rfl, (RowV.slF (d := dId) r1 (by decide) h1).weak (fun _ _ => trivial), (RowV.slF (d := dStp) r2 (by decide) h2).weak (fun _ _ => trivial), (RowV.slF (d := dStp) r3 (by decide) h3).weak (fun _ _ => trivial)⟩
theorem slN {a : Option Addr} {n c : Nat} {qs : List QN} (hs : St w0 F w L) (h1 : TabN a n c (qs.map rawN) ∈ L) (h2 : OwnN qs ∈ L) (hok : ∀ q ∈ qs, okN q) : Sl jD All w a n c (qs.map iG) :=
  Sl.unraw (D := nN) ((RowV.slF (d := dRNd) (hs.all _ h1) (by decide) (fun _ _ => ⟨trivial, trivial, trivial, trivial⟩)).weak (fun _ _ => trivial)) (meanN_of (hs.all _ h2) hok)
end
theorem wR {w : World} {a : Option Addr} {n c : Nat} {N : List NM} (h : Sl jD All w a n c N) : ∀ x ∈ N, okNM x := fun x hx => by
  obtain ⟨rs, h1, hm⟩ := Sl.raw (D := nN) h
  obtain ⟨i, hi⟩ := List.mem_iff_getElem?.1 hx
  obtain ⟨q, hq, e1, e2, e3, e4⟩ := hm.get hi
  exact ⟨mO (show Sl dId All w q.2.1.1 q.2.1.2.1 q.2.1.2.2 x.2.1 from e2), tZ (show Sl dStp All w q.2.2.1.1 q.2.2.1.2.1 q.2.2.1.2.2 x.2.2.1 from e3), tZ (show Sl dStp All w q.2.2.2.1 q.2.2.2.2.1 q.2.2.2.2.2 x.2.2.2 from e4)⟩
theorem yG (xs : List RNd) (x : RNd) : encL cNd xs ++ cNd x = encL cNd (xs ++ [x]) := by rw [gP]; simp [encL]
theorem src_blkN {w : World} {b e : Nat} {r : RNd} {fz : Nat × Nat} (h : w.heap[b]? = some (.cells (cNd r).toArray e fz)) : Src w (some ⟨b, 0, none⟩) 1 4 (cNd r) := by
  refine ⟨rfl, fun h => (nomatch h), fun u hu => ?_, fun b' o hb j u hj => ?_⟩
  · simp only [List.mem_cons, List.not_mem_nil, or_false] at hu
    rcases hu with rfl | rfl | rfl | rfl <;> rfl
  · cases hb
    exact cK h (by rw [Nat.zero_add]; exact hj)
def isM (N : List NM) (x : Int) : Bool := decide (1 ≤ x ∧ x ≤ N.length) && (N.getD (x - 1).toNat n0).1
theorem dF {α : Type} {l : List α} {d x : α} {k : Nat} (h : l[k]? = some x) : l.getD k d = x := by rw [List.getD_eq_getElem?_getD, h]; rfl
theorem isM_true {N : List NM} {x : Int} : isM N x = true ↔ ∃ k y, x = (k : Nat) + 1 ∧ N[k]? = some y ∧ y.1 = true := by
  unfold isM
  rw [Bool.and_eq_true, decide_eq_true_eq]
  constructor
  · rintro ⟨⟨h1, h2⟩, h3⟩
    have hk : (x - 1).toNat < N.length := by omega
    rw [dF (List.getElem?_eq_getElem hk)] at h3
    exact ⟨(x - 1).toNat, N[(x - 1).toNat]'hk, by omega, List.getElem?_eq_getElem hk, h3⟩
  · rintro ⟨k, y, rfl, hy, h3⟩
    have := (List.getElem?_eq_some_iff.1 hy).1
    have e : ((k : Int) + 1 - 1).toNat = k := by omega
    rw [e, dF hy]
    exact ⟨⟨by omega, by omega⟩, h3⟩
attribute [local irreducible] Hold J JL JD JX JXat OpR OpG Ret RetV Is Blk Row
set_option maxRecDepth 100000
set_option maxHeartbeats 1000000
theorem is_r (w : World) (a a2 : Option Addr) (n c n2 c2 : Nat) (N : List NM) (x : Int) (h : Sl jD All w a n c N) (hx : inK .i64 x) :
    Ret Tryz.prog 105 #[.agg #[.slice a n c, .slice a2 n2 c2], .int .i64 x] w fun v w' => v = .bool (isM N x) ∧ Ext w w' := by
  refine cG (l := [_, _]) Tryz.func105 rfl Tryz.ntmps105 (by simp) ?_
  have hs := St.init w
  have hl := h.len
  obtain ⟨rs, hr, hm⟩ := Sl.raw (D := nN) h
  have hmx : n ≤ 9223372036854775807 := by have h3 := h.le; have h4 := h.cap; unfold maxLen at h4; omega
  unfold inK at hx
  simp only [IntKind.min, IntKind.max, IntKind.bits, IntKind.signed] at hx
  have hcase : x < 1 ∨ (1 ≤ x ∧ (n : Int) < x) ∨ (1 ≤ x ∧ x ≤ n) := by omega
  rcases hcase with h1 | ⟨h1, h2⟩ | ⟨h1, h2⟩
  · have e : isM N x = false := by unfold isM; rw [decide_eq_false (by omega)]; rfl
    rw [e]
    repeat' (first | (apply aR) | ((apply aI); (first | (apply aQ; exact aH rfl aA) | (apply aF; exact aB rfl aA) | (apply aK; exact aM rfl rfl rfl aA) | (apply cF; exact bO rfl gb rfl aA)); first | (exact rfl; exact rfl) | exact rfl) | (apply bB) | (apply aG) | (apply aL (t := 2); refine JL_o (by apply cD; exact bG hs rfl) rfl rfl ?_; rintro _ _ ⟨b2, rfl, hb2, hs, hE⟩) | (apply cW; (refine fM rfl gb rfl ?_)))
    refine aY Tryz.func105 rfl (.tmp rfl .nil) ⟨rfl, hs.frm.ext⟩
  · have e : isM N x = false := by unfold isM; rw [decide_eq_false (by omega)]; rfl
    rw [e]
    repeat' (first | (apply aR) | ((first | (apply aI) | (apply bX; exact rfl; exact gb)); (first | (apply aV; first | exact aU hs rfl rfl aA) | (apply aQ; exact aH rfl aA) | (apply aF; exact aB rfl aA) | (apply aT; exact aP rfl rfl aA) | (apply aK; exact aM rfl rfl rfl aA) | (apply cF; first | exact bW rfl gb rfl aA | exact bO rfl gb rfl aA) | (apply bL; exact bY rfl aA)); first | (exact rfl; exact rfl) | exact rfl) | (apply bB) | (apply aG) | (apply aL (t := 2); refine JL_o (by apply cD; exact bG hs rfl) rfl rfl ?_; rintro _ _ ⟨b2, rfl, hb2, hs, hE⟩) | (apply cW; (refine fM rfl gb rfl ?_)))
    refine aY Tryz.func105 rfl (.tmp rfl .nil) ⟨rfl, hs.frm.ext⟩
  · obtain ⟨k, rfl⟩ : ∃ k : Nat, x = (k : Int) + 1 := ⟨(x - 1).toNat, by omega⟩
    obtain ⟨p, o, rfl⟩ := hr.sl.addr (by omega)
    have hy : N[k]? = some (N[k]'(by omega)) := List.getElem?_eq_getElem (by omega)
    obtain ⟨y, hyd⟩ : ∃ y, y = N[k]'(by omega) := ⟨_, rfl⟩
    rw [← hyd] at hy
    obtain ⟨r, hrx, e1, _⟩ := hm.get hy
    have e1 : r.1 = y.1 := e1
    have e : isM N ((k : Int) + 1) = r.1 := by
      unfold isM
      have e2 : ((k : Int) + 1 - 1).toNat = k := by omega
      rw [decide_eq_true (by omega), e2, dF hy, e1]; rfl
    have hrx2 : rs[((k : Int) + 1 - 1).toNat]? = some r := by rw [show ((k : Int) + 1 - 1).toNat = k by omega]; exact hrx
    rw [e]
    repeat' (first | (apply aR) | ((first | (apply aI) | (apply bX; exact rfl; exact gb)); (first | (apply aV; first | exact aU hs rfl rfl aA | exact bU (i := ((k : Int) + 1 - 1).toNat) (j := 0) (hr.st hs) hrx2 rfl rfl rfl aA) | (apply aQ; exact aH rfl aA) | (apply aF; exact aB rfl aA) | (apply aT; first | exact aP rfl rfl aA | exact bP rfl rfl aA) | (apply dZ; exact dI rfl rfl (by omega) aA) | (apply aK; exact aM rfl rfl rfl aA) | (apply cF; exact bW rfl gb rfl aA) | (apply bL; exact bY rfl aA) | (apply aO; exact aN rfl rfl (by omega) (by omega) aA)); first | (exact rfl; exact rfl) | exact rfl) | (apply bB) | (apply aG) | (apply aL (t := 2); refine JL_o (by apply cD; exact bG hs rfl) rfl rfl ?_; rintro _ _ ⟨b2, rfl, hb2, hs, hE⟩))
    refine aY Tryz.func105 rfl (.tmp rfl .nil) ⟨rfl, hs.frm.ext⟩
theorem dV (w : World) (a b : ST) (ha : okT a) (hb : okT b) : Ret Tryz.prog 172 #[.agg (cT a).toArray, .agg (cT b).toArray] w fun v w' => v = .int .i64 (cmpI a.1 b.1) ∧ Ext w w' := by
  refine cG (l := [_, _]) Tryz.func172 rfl Tryz.ntmps172 (by simp) ?_
  have hs := St.init w
  repeat' (first | ((apply aW 138; refine JL_o (by exact aC en138 rfl (oI _ a.1 b.1 ha.1 hb.1)) rfl rfl ?_; rintro _ _ ⟨rfl, hE⟩; have hs := hs.ext hE; (try simp only [zcc] at hs))) | (apply aR) | ((apply aI); (first | (apply aV; first | exact aU hs rfl rfl aA) | (apply aF; exact aB rfl aA) | (apply aT; exact aP rfl rfl aA)); first | (exact rfl; exact rfl) | exact rfl) | (apply bB) | (apply aG) | (apply aL (t := 2); refine JL_o (by apply cD; exact bG hs rfl) rfl rfl ?_; rintro _ _ ⟨b2, rfl, hb2, hs, hE⟩) | (apply aL (t := 3); refine JL_o (by apply cD; exact bG hs rfl) rfl rfl ?_; rintro _ _ ⟨b3, rfl, hb3, hs, hE⟩))
  refine aY Tryz.func172 rfl (.tmp rfl .nil) ⟨rfl, hs.frm.ext⟩
end Go.Eng
end
