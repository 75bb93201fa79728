/- The engine, part 14: a region whose hard operations come in more than one order; many orders brought to one goal. -/
import Derived.Test.YtcoldgkhlkjjmaaGreatE13
namespace Go.Eng
open Go.RowKit
section
variable {P : Program} {f : FuncId} {ro : Option Nat} {n : Nat} {R : Value → World → Prop} {k : List Item} {ds : List Deferred} {env env0 : Env} {w w' : World}
variable {ops : Array Oper} {T : List Nat} {X : Nat → Prop} {D : List (Nat × Value)} {σ σ' : List (Nat × Bool)} {τ : List Nat}
/-- Many ways through c come to one goal. -/
theorem J_cut {c : Code} (Q : Env → World → Prop) (h : ∀ R k, (∀ env w, Q env w → J P f ro n R k ds env w) → J P f ro n R (.code c :: k) ds env w)
    (hk : ∀ env w, Q env w → J P f ro n R k ds env w) : J P f ro n R (.code c :: k) ds env w := h R k hk
/-- JD, operation j being the next. -/
def JDH (P : Program) (f : FuncId) (ro : Option Nat) (n : Nat) (R : Value → World → Prop) (ops : Array Oper) (T : List Nat) (X : Nat → Prop) (σ : List (Nat × Bool)) (τ : List Nat) (D : List (Nat × Value)) (env0 : Env) (k : List Item) (ds : List Deferred) (env : Env) (w : World) (j : Nat) : Prop :=
  tabOk ops T = true → namesOk ops T = true → planOk ops.size T σ τ (D.map (·.1)) = true → Node ops T n D env0 env → (∀ d, d < ops.size → has T j d = true → d ∈ D.map (·.1)) → j < ops.size → j ∉ D.map (·.1) →
    ∀ r tmps cs, Inv P ops T X n (j :: r) (σ.map (·.1) ++ τ) D env0 tmps w →
      ∃ v w' fr w'', R v w' ∧ Steps P (lone ((base f ro).atR ⟨tmps, ds⟩ (.inRegion ops (j :: r) :: k)) cs w) (lone fr cs w'') ∧ Fin P f ro fr cs w'' v w'
theorem planOk_all {N : Nat} : ∀ {σ : List (Nat × Bool)} {τ D : List Nat}, planOk N T σ τ D = true → ∀ i, i < N → i ∈ D ∨ i ∈ σ.map (·.1) ++ τ
  | [], τ, D, h, i, hi => by
    simp only [planOk, Bool.and_eq_true, List.all_eq_true, List.mem_range, Bool.or_eq_true, List.contains_eq_mem, decide_eq_true_eq] at h
    simpa using h.1 i hi
  | (x, c) :: σ, τ, D, h, i, hi => by
    have h' := (plan_head h).2.2.2.2
    rcases planOk_all h' i hi with h1 | h1
    · rcases List.mem_cons.1 h1 with rfl | h1
      · exact .inr (by simp)
      · exact .inl h1
    · exact .inr (List.mem_cons_of_mem _ h1)
theorem tailOk_not {N : Nat} : ∀ {τ D : List Nat}, planOk.tailOk N T τ D = true → ∀ i ∈ τ, i ∉ D
  | [], _, _, i, hi => by cases hi
  | x :: τ, D, h, i, hi => by
    simp only [planOk.tailOk, Bool.and_eq_true, Bool.not_eq_true', List.contains_eq_mem, decide_eq_false_iff_not] at h
    rcases List.mem_cons.1 hi with rfl | hi
    · exact h.1.1.2
    · exact fun hd => tailOk_not h.2 i hi (List.mem_cons_of_mem _ hd)
theorem planOk_not {N : Nat} : ∀ {σ : List (Nat × Bool)} {τ D : List Nat}, planOk N T σ τ D = true → ∀ i ∈ σ.map (·.1) ++ τ, i ∉ D
  | [], τ, D, h, i, hi => by
    simp only [planOk, Bool.and_eq_true] at h
    exact tailOk_not h.2 i (by simpa using hi)
  | (x, c) :: σ, τ, D, h, i, hi => by
    obtain ⟨_, h2, _, _, h'⟩ := plan_head h
    simp only [List.map_cons, List.cons_append, List.mem_cons] at hi
    rcases hi with rfl | hi
    · exact h2
    · exact fun hd => planOk_not h' i hi (List.mem_cons_of_mem _ hd)
/-- One of these comes next. -/
def cand (N : Nat) (T : List Nat) (l D : List Nat) : List Nat := l.filter fun j => Nat.blt j N && !D.contains j && (List.range N).all fun d => !has T j d || D.contains d
theorem JD_choose (hne : (σ.map (·.1) ++ τ).isEmpty = false) (h : ∀ j ∈ cand ops.size T (σ.map (·.1) ++ τ) (D.map (·.1)), JDH P f ro n R ops T X σ τ D env0 k ds env w j) : JD P f ro n R ops T X σ τ D env0 k ds env w := by
  intro hT hN hp nd l tmps cs hI
  obtain ⟨l', tmps1, hl', hI1, hs1⟩ := Inv.flush (f := f) (ro := ro) (ds := ds) (k := k) hT hN nd hI cs
  rcases hl' with rfl | ⟨j, r, rfl, hj⟩
  · exfalso
    cases hl : σ.map (·.1) ++ τ with
    | nil => rw [hl] at hne; cases hne
    | cons x xs => have := hI1.rest x (by rw [hl]; simp); simp at this
  · have hjl := (hI1.part j List.mem_cons_self).1
    have hnot : j ∉ r := (List.nodup_cons.1 hI1.nodup).1
    have hdeps : ∀ d, d < ops.size → has T j d = true → d ∈ D.map (·.1) := by
      intro d hd hh
      rcases planOk_all hp d hd with h1 | h1
      · exact h1
      · exfalso
        rcases List.mem_cons.1 (hI1.rest d h1) with rfl | h2
        · have := has_lt hT (d + 1) d (by omega) hd d hh; omega
        · have := (List.pairwise_cons.1 hI1.lin).1 d h2
          rw [hh] at this; cases this
    have hjD : j ∉ D.map (·.1) := planOk_not hp j hj
    obtain ⟨v', w', fr, w'', hR, hs', hf⟩ := h j (by
      simp only [cand, List.mem_filter, Bool.and_eq_true, Nat.blt_eq, Bool.not_eq_true', List.contains_eq_mem, decide_eq_false_iff_not, List.all_eq_true, List.mem_range, Bool.or_eq_true, decide_eq_true_eq]
      refine ⟨hj, ⟨hjl, hjD⟩, fun d hd => ?_⟩
      cases hh : has T j d with
      | false => exact .inl rfl
      | true => exact .inr (hdeps d hd hh)) hT hN hp nd hdeps hjl hjD r tmps1 cs hI1
    exact ⟨v', w', fr, w'', hR, hs1.trans hs', hf⟩
/-- The operation that comes next is done; σ' is what is to come then. -/
theorem JDH_exec {i : Nat} {o : Oper} {S : Value → World → Prop} (hp' : planOk ops.size T σ' τ (i :: D.map (·.1)) = true) (hm1 : (σ.map (·.1) ++ τ).all (fun x => x == i || (σ'.map (·.1) ++ τ).contains x) = true)
    (hm2 : (σ'.map (·.1) ++ τ).all (fun x => x != i && (σ.map (·.1) ++ τ).contains x) = true) (ho : ops[i]? = some o) (h : OpG P ops env o w S) (hS : ∀ v w', S v w' → Rl X w w') (hnd : notDefer o.op = true)
    (hk : ∀ v w', S v w' → JD P f ro n R ops T X σ' τ ((i, v) :: D) env0 k ds (put env o.dst v) w') : JDH P f ro n R ops T X σ τ D env0 k ds env w i := by
  intro hT hN hp nd hdeps hil hD r tmps1 cs hI1
  have hm := Inv.matches hT hI1 rfl ho (nd.reads hN ho hD hdeps)
  obtain ⟨v, w2, hSv, hst⟩ := OpG.step (f := f) (ro := ro) (ds := ds) (k := k) (l := r) ho hnd h hm cs
  have hE := hS v w2 hSv
  have hnot : i ∉ r := (List.nodup_cons.1 hI1.nodup).1
  have nd' := nd.more (u := v) ho hD hdeps
  have hlt : ∀ t, o.dst = some t → t < tmps1.size := by rw [hI1.size]; exact dstOk_lt (nd.dst i o ho)
  simp only [List.all_eq_true, Bool.or_eq_true, Bool.and_eq_true, beq_iff_eq, bne_iff_ne, List.contains_eq_mem, decide_eq_true_eq] at hm1 hm2
  have hI2 : Inv P ops T X n r (σ'.map (·.1) ++ τ) ((i, v) :: D) env0 (Act.put ⟨tmps1, []⟩ o.dst v).tmps w2 := by
   refine ⟨(List.pairwise_cons.1 hI1.lin).2, (List.nodup_cons.1 hI1.nodup).2, fun j hj => ⟨(hI1.part j (List.mem_cons_of_mem _ hj)).1, ?_⟩, fun j hj => ?_,
     fun j hjl hj d hd hdl => ?_, by rw [put_size]; exact hI1.size, tv_step hN nd'.keys ho hnot List.mem_cons_self hlt (fun t u htv => hI1.tm t u ?_), fun j x hj hjl => ?_⟩
   · rcases (hI1.part j (List.mem_cons_of_mem _ hj)).2 with h1 | h1
     · rcases hm1 j h1 with rfl | h2
       · exact absurd hj hnot
       · exact .inl h2
     · exact .inr (List.mem_cons_of_mem _ h1)
   · obtain ⟨h1, h2⟩ := hm2 j hj
     rcases List.mem_cons.1 (hI1.rest j h2) with h3 | h3
     · exact absurd h3 h1
     · exact h3
   · by_cases hji : j = i
     · subst hji; have := (List.pairwise_cons.1 hI1.lin).1 d hdl; rw [hd] at this; cases this
     · exact hI1.closed j hjl (fun hm => by rcases List.mem_cons.1 hm with h | h; exact hji h; exact hj h) d hd (List.mem_cons_of_mem _ hdl)
   · rcases htv with ⟨j, hj, hjl, hjd⟩ | h1
     · rcases List.mem_cons.1 hj with e | hj
       · cases e; exact absurd List.mem_cons_self hjl
       · exact .inl ⟨j, hj, hjl, hjd⟩
     · exact .inr h1
   · rcases List.mem_cons.1 hj with e | hj
     · cases e; exact absurd hjl hnot
     · exact ((hI1.pend j x hj (List.mem_cons_of_mem _ hjl)).ext hE).more _
  obtain ⟨v', w', fr, w'', hR, hs', hf⟩ := hk v w2 hSv hT hN hp' nd' r _ cs hI2
  exact ⟨v', w', fr, w'', hR, hst.trans hs', hf⟩
def AllL (p : Nat → Prop) : List Nat → Prop
  | [] => True
  | x :: xs => p x ∧ AllL p xs
theorem AllL.mem {p : Nat → Prop} : ∀ {l : List Nat}, AllL p l → ∀ j ∈ l, p j
  | x :: xs, h, j, hj => by
    rcases List.mem_cons.1 hj with rfl | hj
    · exact h.1
    · exact AllL.mem h.2 j hj
theorem JD_any (hne : (σ.map (·.1) ++ τ).isEmpty = false) (h : AllL (JDH P f ro n R ops T X σ τ D env0 k ds env w) (cand ops.size T (σ.map (·.1) ++ τ) (D.map (·.1)))) : JD P f ro n R ops T X σ τ D env0 k ds env w := JD_choose hne h.mem
theorem JDH_go {i t : Nat} {op : Op} {ty : TypeId} {pos : String} {af : Array Edge} {S : Value → World → Prop} (hp' : planOk ops.size T (σ.filter (fun x => x.1 != i)) τ (i :: D.map (·.1)) = true) (hm1 : (σ.map (·.1) ++ τ).all (fun x => x == i || ((σ.filter (fun x => x.1 != i)).map (·.1) ++ τ).contains x) = true)
    (hm2 : ((σ.filter (fun x => x.1 != i)).map (·.1) ++ τ).all (fun x => x != i && (σ.map (·.1) ++ τ).contains x) = true) (ho : ops[i]? = some ⟨some t, op, ty, pos, af, none⟩) (h : OpR P env ⟨some t, op, ty, pos, af, none⟩ w S) (hS : ∀ v w', S v w' → Ext w w') (hnd : notDefer op = true)
    (hk : ∀ v w', S v w' → JD P f ro n R ops T X (σ.filter (fun x => x.1 != i)) τ ((i, v) :: D) env0 k ds ((t, v) :: env) w') : JDH P f ro n R ops T X σ τ D env0 k ds env w i :=
  JDH_exec hp' hm1 hm2 ho (OpG_none rfl h) (fun v w' h => (hS v w' h).rl) hnd hk
end
/-! ### Chunks in another order, and fewer -/
class Take (L : List HP) (c : HP) (L' : outParam (List HP)) : Prop where h : L.Perm (c :: L')
instance (priority := low) Take.tail {L L' : List HP} {c d : HP} [t : Take L c L'] : Take (d :: L) c (d :: L') := ⟨(List.Perm.cons d t.h).trans (List.Perm.swap c d L')⟩
instance Take.head {L : List HP} {c : HP} : Take (c :: L) c L := ⟨List.Perm.refl _⟩
class SubTo (L M : List HP) : Prop where h : ∃ N, L.Perm N ∧ M.Sublist N
instance SubTo.nil {L : List HP} : SubTo L [] := ⟨L, List.Perm.refl _, List.nil_sublist _⟩
instance SubTo.cons {L L' M : List HP} {c : HP} [t : Take L c L'] [s : SubTo L' M] : SubTo L (c :: M) := by
  obtain ⟨N, h1, h2⟩ := s.h
  exact ⟨c :: N, t.h.trans (List.Perm.cons c h1), h2.cons_cons c⟩
theorem St.to {w0 w : World} {F : Nat → Prop} {L : List HP} (h : St w0 F w L) (M : List HP) [s : SubTo L M] : St w0 F w M := by
  obtain ⟨N, h1, h2⟩ := s.h
  exact (h.perm h1).sub h2
end Go.Eng
