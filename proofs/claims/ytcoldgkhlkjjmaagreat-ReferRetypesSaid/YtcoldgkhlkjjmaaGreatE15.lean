/- The engine, part 15: a region that draws, whose makers of memory wait for nothing: each may come at any time. -/
import Derived.Test.YtcoldgkhlkjjmaaGreatE14
namespace Go.Eng
open Go.RowKit
/-- A maker of memory: its operation, its slot, what it makes, what it hands back. -/
structure AE where
  i : Nat
  t : Nat
  obj : Obj
  val : Nat → Value
def AE.ch (x : AE × Nat) : HP := Blk x.2 x.1.obj
def AE.tell (x : AE × Nat) : Nat × Value := (x.1.i, x.1.val x.2)
section
variable {P : Program} {f : FuncId} {ro : Option Nat} {n : Nat} {R : Value → World → Prop} {k : List Item} {ds : List Deferred} {env env0 : Env} {w0 w w' : World} {F : Nat → Prop}
variable {ops : Array Oper} {T : List Nat} {X Z : Nat → Prop} {N0 : Nat} {C0 : List HP} {D D' : List (Nat × Value)} {τ : List Nat}
def ReadsAt (ops : Array Oper) (T : List Nat) (D : List (Nat × Value)) (env0 : Env) (i : Nat) (o : Oper) (e : Env) : Prop :=
  ∀ t v, t ∈ slots ops o → Env.get e t = some v → (∃ j, (j, v) ∈ D ∧ dstAt ops j = some t ∧ has T i j = true) ∨ ((∀ j, dstAt ops j = some t → j = i ∨ has T j i = true) ∧ Env.get env0 t = some v)
theorem ReadsAt.more {i : Nat} {o : Oper} {e : Env} (h : ReadsAt ops T D env0 i o e) (hD : ∀ x ∈ D, x ∈ D') : ReadsAt ops T D' env0 i o e :=
  fun t v ht hv => (h t v ht hv).imp (fun ⟨j, a, b⟩ => ⟨j, hD _ a, b⟩) id
def PendA (P : Program) (ops : Array Oper) (T : List Nat) (w0 : World) (F : Nat → Prop) (D : List (Nat × Value)) (env0 : Env) (a : AE) : Prop :=
  ∃ o e, ops[a.i]? = some o ∧ notDefer o.op = true ∧ o.dst = some a.t ∧ ReadsAt ops T D env0 a.i o e ∧ (∀ d, d < ops.size → has T a.i d = true → d ∈ D.map (·.1)) ∧
    ∀ W L, St w0 F W L → OpG P ops e o W (NewAt w0 F W L a.obj a.val)
theorem PendA.more {a : AE} (h : PendA P ops T w0 F D env0 a) (hD : ∀ x ∈ D, x ∈ D') : PendA P ops T w0 F D' env0 a :=
  let ⟨o, e, h1, h2, h3, h4, h5, h6⟩ := h; ⟨o, e, h1, h2, h3, h4.more hD, fun d hd hh => by
    obtain ⟨x, hx, rfl⟩ := List.mem_map.1 (h5 d hd hh); exact List.mem_map.2 ⟨x, hD x hx, rfl⟩, h6⟩
/-- What is owed from here on, the operations todo being untold. -/
def JC (P : Program) (f : FuncId) (ro : Option Nat) (n : Nat) (R : Value → World → Prop) (ops : Array Oper) (T : List Nat) (Z : Nat → Prop) (todo : List Nat) (D : List (Nat × Value)) (env0 : Env) (k : List Item) (ds : List Deferred) (w : World) (l : List Nat) : Prop :=
  ∀ tmps cs, Inv P ops T Z n l todo D env0 tmps w →
      ∃ v w' fr w'', R v w' ∧ Steps P (lone ((base f ro).atR ⟨tmps, ds⟩ (.inRegion ops l :: k)) cs w) (lone fr cs w'') ∧ Fin P f ro fr cs w'' v w'
theorem Inv.same {l : List Nat} {σ σ' : List Nat} {tmps : Array Value} (h : Inv P ops T X n l σ D env0 tmps w) (hσ : ∀ i, i ∈ σ ↔ i ∈ σ') (hD : ∀ x, x ∈ D ↔ x ∈ D') : Inv P ops T X n l σ' D' env0 tmps w := by
  have hk : ∀ i, i ∈ D.map (·.1) ↔ i ∈ D'.map (·.1) := fun i => by
    constructor
    · intro h; obtain ⟨x, hx, rfl⟩ := List.mem_map.1 h; exact List.mem_map.2 ⟨x, (hD x).1 hx, rfl⟩
    · intro h; obtain ⟨x, hx, rfl⟩ := List.mem_map.1 h; exact List.mem_map.2 ⟨x, (hD x).2 hx, rfl⟩
  refine ⟨h.lin, h.nodup, fun i hi => ⟨(h.part i hi).1, (h.part i hi).2.imp (hσ i).1 (hk i).1⟩, fun i hi => h.rest i ((hσ i).2 hi), h.closed, h.size, fun t v htv => h.tm t v ?_, fun i u hi hl => ?_⟩
  · exact htv.imp (fun ⟨i, h1, h2⟩ => ⟨i, (hD _).2 h1, h2⟩) id
  · obtain ⟨o, e, a, b, c, d⟩ := h.pend i u ((hD _).2 hi) hl
    exact ⟨o, e, a, b, fun t v ht hv => (c t v ht hv).imp (fun ⟨j, h1, h2⟩ => ⟨j, (hD _).1 h1, h2⟩) id, d⟩
theorem JC.same {σ σ' l : List Nat} (h : JC P f ro n R ops T Z σ D env0 k ds w l) (hσ : ∀ i, i ∈ σ ↔ i ∈ σ') (hD : ∀ x, x ∈ D ↔ x ∈ D') : JC P f ro n R ops T Z σ' D' env0 k ds w l :=
  fun tmps cs hI => h tmps cs (hI.same (fun i => (hσ i).symm) (fun x => (hD x).symm))
/-- One operation, carried out: what the invariant is then. -/
theorem Inv.exec {o : Oper} {i : Nat} {r todo todo' : List Nat} {tmps : Array Value} {S : Value → World → Prop} {e : Env} (hT : tabOk ops T = true) (hN : namesOk ops T = true) (hdst : ∀ (i : Nat) (o : Oper), ops[i]? = some o → dstOk n o = true) (hkeys : (D.map (·.1)).Nodup) (hiD : i ∉ D.map (·.1))
    (hI : Inv P ops T Z n (i :: r) todo D env0 tmps w) (ho : ops[i]? = some o) (hr : ReadsAt ops T D env0 i o e) (hnd : notDefer o.op = true) (h : OpG P ops e o w S) (hS : ∀ v w', S v w' → Rl Z w w')
    (h1 : ∀ j ∈ todo, j = i ∨ j ∈ todo') (h2 : ∀ j ∈ todo', j ≠ i ∧ j ∈ todo) (cs : List Frame) :
    ∃ v w2 tmps', S v w2 ∧ Inv P ops T Z n r todo' ((i, v) :: D) env0 tmps' w2 ∧ Steps P (lone ((base f ro).atR ⟨tmps, ds⟩ (.inRegion ops (i :: r) :: k)) cs w) (lone ((base f ro).atR ⟨tmps', ds⟩ (.inRegion ops r :: k)) cs w2) := by
  have hm := Inv.matches hT hI rfl ho hr
  obtain ⟨v, w2, hSv, hst⟩ := OpG.step (f := f) (ro := ro) (ds := ds) (k := k) (l := r) ho hnd h hm cs
  have hE := hS v w2 hSv
  have hnot : i ∉ r := (List.nodup_cons.1 hI.nodup).1
  have hlt : ∀ t, o.dst = some t → t < tmps.size := by rw [hI.size]; exact dstOk_lt (hdst i o ho)
  refine ⟨v, w2, _, hSv, ?_, hst⟩
  refine ⟨(List.pairwise_cons.1 hI.lin).2, (List.nodup_cons.1 hI.nodup).2, fun j hj => ⟨(hI.part j (List.mem_cons_of_mem _ hj)).1, ?_⟩, fun j hj => ?_,
     fun j hjl hj d hd hdl => ?_, by rw [put_size]; exact hI.size, tv_step hN (by simp only [List.map_cons, List.nodup_cons]; exact ⟨hiD, hkeys⟩) ho hnot List.mem_cons_self hlt (fun t u htv => hI.tm t u ?_), fun j x hj hjl => ?_⟩
  · rcases (hI.part j (List.mem_cons_of_mem _ hj)).2 with h3 | h3
    · rcases h1 j h3 with rfl | h4
      · exact absurd hj hnot
      · exact .inl h4
    · exact .inr (List.mem_cons_of_mem _ h3)
  · obtain ⟨h3, h4⟩ := h2 j hj
    rcases List.mem_cons.1 (hI.rest j h4) with h5 | h5
    · exact absurd h5 h3
    · exact h5
  · by_cases hji : j = i
    · subst hji; have := (List.pairwise_cons.1 hI.lin).1 d hdl; rw [hd] at this; cases this
    · exact hI.closed j hjl (fun hm => by rcases List.mem_cons.1 hm with h | h; exact hji h; exact hj h) d hd (List.mem_cons_of_mem _ hdl)
  · rcases htv with ⟨j, hj, hjl, hjd⟩ | h3
    · rcases List.mem_cons.1 hj with e | hj
      · cases e; exact absurd List.mem_cons_self hjl
      · exact .inl ⟨j, hj, hjl, hjd⟩
    · exact .inr h3
  · rcases List.mem_cons.1 hj with e | hj
    · cases e; exact absurd hjl hnot
    · exact ((hI.pend j x hj (List.mem_cons_of_mem _ hjl)).ext hE).more _
theorem nodeE {A : List AE} (hN : namesOk ops T = true) (nd : Node ops T n D env0 env) (hp : ∀ a ∈ A, PendA P ops T w0 F D env0 a) : ∀ {E : List (AE × Nat)}, (∀ x ∈ E, x.1 ∈ A) → (E.map (fun x => x.1.i)).Nodup → (∀ x ∈ E, x.1.i ∉ D.map (·.1)) →
    ∃ env', Node ops T n (E.map AE.tell ++ D) env0 env'
  | [], _, _, _ => ⟨env, nd⟩
  | x :: E, hA, hn, hd => by
    simp only [List.map_cons, List.nodup_cons] at hn
    obtain ⟨env', nd'⟩ := nodeE hN nd hp (E := E) (fun y hy => hA y (List.mem_cons_of_mem _ hy)) hn.2 (fun y hy => hd y (List.mem_cons_of_mem _ hy))
    obtain ⟨o, e, h1, h2, h3, h4, h5, h6⟩ := hp x.1 (hA x List.mem_cons_self)
    refine ⟨_, nd'.more (i := x.1.i) (u := x.1.val x.2) h1 (fun hm => ?_) (fun d hd' hh => ?_)⟩
    · simp only [List.map_append, List.map_map, List.mem_append, List.mem_map] at hm
      rcases hm with ⟨y, hy, he⟩ | hm
      · exact hn.1 (List.mem_map.2 ⟨y, hy, he⟩)
      · exact hd x List.mem_cons_self (List.mem_map.2 hm)
    · rw [List.map_append]; exact List.mem_append_right _ (h5 d hd' hh)
structure XOk (P : Program) (ops : Array Oper) (T : List Nat) (n : Nat) (w0 : World) (F : Nat → Prop) (A : List AE) (M : List Nat) (D : List (Nat × Value)) (env0 env : Env) : Prop where
  tab : tabOk ops T = true
  names : namesOk ops T = true
  node : Node ops T n D env0 env
  pend : ∀ a ∈ A, PendA P ops T w0 F D env0 a
  anod : (A.map (·.i)).Nodup
  aD : ∀ a ∈ A, a.i ∉ D.map (·.1)
  cover : ∀ i, i < ops.size → i ∈ D.map (·.1) ∨ i ∈ M ∨ i ∈ A.map (·.i)
  mD : ∀ i ∈ M, i ∉ D.map (·.1)
  mA : ∀ i ∈ M, i ∉ A.map (·.i)
theorem keysE {E : List (AE × Nat)} {i : Nat} : i ∈ (E.map AE.tell ++ D).map (·.1) ↔ (∃ x ∈ E, x.1.i = i) ∨ i ∈ D.map (·.1) := by
  simp only [List.map_append, List.map_map, List.mem_append, List.mem_map]
  rfl
/-- Z: what may be written while floats pend; C0: the chunks that no such write touches. -/
structure ZOk (w0 : World) (F Z : Nat → Prop) (N0 : Nat) (C0 : List HP) (W : World) : Prop where
  old : ∀ k, k < w0.heap.size → ¬ Z k
  foot : ∀ c ∈ C0, ∀ k, c.foot k → ¬ Z k
  st : St w0 F W C0
  size : N0 ≤ W.heap.size
theorem ZOk.rl {W W' : World} (h : ZOk w0 F Z N0 C0 W) (r : Rl Z W W') : ZOk w0 F Z N0 C0 W' := by
  refine ⟨h.old, h.foot, ⟨⟨r.os.trans h.st.frm.os, r.tape.trans h.st.frm.tape, r.output.trans h.st.frm.output, Nat.le_trans h.st.frm.size r.size, fun k hk hF => ?_, Nat.le_trans h.st.frm.drawn r.drawn⟩, fun c hc => ?_, fun c hc k hk => ?_, h.st.sep⟩, Nat.le_trans h.size r.size⟩
  · exact (r.old k (Nat.lt_of_lt_of_le hk h.st.frm.size) (h.old k hk)).trans (h.st.frm.old k hk hF)
  · exact c.loc W W' (fun k hk => r.old k (h.st.foot c hc k hk).1 (h.foot c hc k hk)) (h.st.all c hc)
  · exact ⟨Nat.lt_of_lt_of_le (h.st.foot c hc k hk).1 r.size, (h.st.foot c hc k hk).2⟩
theorem ZOk.none {W : World} : St w0 F W [] → ZOk w0 F NoF 0 [] W := fun h => ⟨fun _ _ h => h, fun _ hc => (nomatch hc), h, Nat.zero_le _⟩
/-- On to where no maker of memory is next. -/
theorem JC_adv {A : List AE} {M : List Nat} {C : List HP} (ok : XOk P ops T n w0 F A M D env0 env)
    (H : ∀ (E : List (AE × Nat)) (rem : List AE), (E.map (·.1) ++ rem).Perm A → ∀ W, St w0 F W (E.map AE.ch ++ C) → ZOk w0 F Z N0 C0 W → ∀ l,
      (l = [] ∧ M = [] ∧ rem = [] ∨ ∃ j r, l = j :: r ∧ j ∈ M ∧ ∀ d, d < ops.size → has T j d = true → d ∈ (E.map AE.tell ++ D).map (·.1)) → JC P f ro n R ops T Z (M ++ rem.map (·.i)) (E.map AE.tell ++ D) env0 k ds W l) :
    ∀ (m : Nat) (E : List (AE × Nat)) (rem : List AE), rem.length = m → (E.map (·.1) ++ rem).Perm A → ∀ W, St w0 F W (E.map AE.ch ++ C) → ZOk w0 F Z N0 C0 W → ∀ l, JC P f ro n R ops T Z (M ++ rem.map (·.i)) (E.map AE.tell ++ D) env0 k ds W l := by
  intro m
  induction m using Nat.strongRecOn with
  | _ m ih =>
    intro E rem hm hp W hs hz l tmps cs hI
    have hmem : ∀ a, a ∈ A ↔ (∃ x ∈ E, x.1 = a) ∨ a ∈ rem := fun a => by
      rw [← hp.mem_iff, List.mem_append, List.mem_map]
    have hnod : ((E.map (·.1) ++ rem).map (·.i)).Nodup := (hp.map _).nodup_iff.2 ok.anod
    rw [List.map_append, List.map_map] at hnod
    obtain ⟨hn1, hn2, hn3⟩ := List.nodup_append.1 hnod
    obtain ⟨env', nd⟩ := nodeE ok.names ok.node ok.pend (E := E) (fun x hx => (hmem _).2 (.inl ⟨x, hx, rfl⟩)) hn1 (fun x hx => ok.aD _ ((hmem _).2 (.inl ⟨x, hx, rfl⟩)))
    obtain ⟨l', tmps1, hl', hI1, hs1⟩ := Inv.flush (f := f) (ro := ro) (ds := ds) (k := k) ok.tab ok.names nd hI cs
    have hdeps : ∀ j r, l' = j :: r → ∀ d, d < ops.size → has T j d = true → d ∈ (E.map AE.tell ++ D).map (·.1) := by
      intro j r hl d hd hh
      subst hl
      have hnot : d ∉ M ++ rem.map (·.i) := fun h1 => by
        rcases List.mem_cons.1 (hI1.rest d h1) with rfl | h2
        · have := has_lt ok.tab (d + 1) d (by omega) hd d hh; omega
        · have := (List.pairwise_cons.1 hI1.lin).1 d h2
          rw [hh] at this; cases this
      rcases ok.cover d hd with h1 | h1 | h1
      · exact keysE.2 (.inr h1)
      · exact absurd (List.mem_append_left _ h1) hnot
      · obtain ⟨a, ha, rfl⟩ := List.mem_map.1 h1
        rcases (hmem a).1 ha with ⟨x, hx, rfl⟩ | h2
        · exact keysE.2 (.inl ⟨x, hx, rfl⟩)
        · exact absurd (List.mem_append_right _ (List.mem_map.2 ⟨a, h2, rfl⟩)) hnot
    rcases hl' with rfl | ⟨j, r, rfl, hj⟩
    · have hnone : ∀ i, i ∉ M ++ rem.map (·.i) := fun i hi => by have := hI1.rest i hi; simp at this
      have e1 : M = [] := List.eq_nil_iff_forall_not_mem.2 (fun i hi => hnone i (List.mem_append_left _ hi))
      have e2 : rem = [] := List.eq_nil_iff_forall_not_mem.2 (fun a ha => hnone a.i (List.mem_append_right _ (List.mem_map.2 ⟨a, ha, rfl⟩)))
      obtain ⟨v', w', fr, w'', hR, hs', hf⟩ := H E rem hp W hs hz [] (.inl ⟨rfl, e1, e2⟩) tmps1 cs hI1
      exact ⟨v', w', fr, w'', hR, hs1.trans hs', hf⟩
    · by_cases hjM : j ∈ M
      · obtain ⟨v', w', fr, w'', hR, hs', hf⟩ := H E rem hp W hs hz (j :: r) (.inr ⟨j, r, rfl, hjM, hdeps j r rfl⟩) tmps1 cs hI1
        exact ⟨v', w', fr, w'', hR, hs1.trans hs', hf⟩
      · obtain ⟨a, ha, rfl⟩ := List.mem_map.1 ((List.mem_append.1 hj).resolve_left hjM)
        obtain ⟨rem1, rem2, rfl⟩ := List.append_of_mem ha
        have haA : a ∈ A := (hmem a).2 (.inr ha)
        obtain ⟨o, e, ho, hnd, hdst, hr, hd5, hG⟩ := ok.pend a haA
        have hp' : ∀ b, (((a, b) :: E).map (·.1) ++ (rem1 ++ rem2)).Perm A := fun b => by
          refine List.Perm.trans ?_ hp
          simp only [List.map_cons, List.cons_append]
          rw [← List.append_assoc, ← List.append_assoc]
          exact (List.perm_middle (l₁ := E.map (·.1) ++ rem1) (l₂ := rem2) (a := a)).symm
        have hi1 : a.i ∉ (E.map AE.tell ++ D).map (·.1) := fun h => by
          rcases keysE.1 h with ⟨x, hx, he⟩ | h
          · exact hn3 _ (List.mem_map.2 ⟨x, hx, rfl⟩) _ (List.mem_map.2 ⟨a, ha, rfl⟩) he
          · exact ok.aD a haA h
        have hirem : ∀ y ∈ rem1 ++ rem2, y.i ≠ a.i := by
          intro y hy he
          rw [List.map_append, List.map_cons, List.nodup_append] at hn2
          obtain ⟨_, h2, h3⟩ := hn2
          rcases List.mem_append.1 hy with hy | hy
          · exact h3 _ (List.mem_map.2 ⟨y, hy, rfl⟩) _ List.mem_cons_self he
          · exact (List.nodup_cons.1 h2).1 (List.mem_map.2 ⟨y, hy, he⟩)
        obtain ⟨v, w2, tmps2, ⟨b, rfl, hb, hs2, hE2⟩, hI2, hs3⟩ := Inv.exec (f := f) (ro := ro) (ds := ds) (k := k) (todo' := M ++ (rem1 ++ rem2).map (·.i)) ok.tab ok.names nd.dst nd.keys hi1 hI1 ho (hr.more (fun x hx => List.mem_append_right _ hx)) hnd (hG W _ hs) (fun v w' ⟨b, _, _, _, h⟩ => h.rl)
          (fun j hj => by
            simp only [List.mem_append, List.map_append, List.map_cons, List.mem_cons] at hj ⊢
            rcases hj with h | h | h | h
            · exact .inr (.inl h)
            · exact .inr (.inr (.inl h))
            · exact .inl h
            · exact .inr (.inr (.inr h)))
          (fun j hj => by
            refine ⟨fun he => ?_, ?_⟩
            · subst he
              rcases List.mem_append.1 hj with h | h
              · exact hjM h
              · obtain ⟨y, hy, he⟩ := List.mem_map.1 h; exact hirem y hy he
            · simp only [List.mem_append, List.map_append, List.map_cons, List.mem_cons] at hj ⊢
              rcases hj with h | h | h
              · exact .inl h
              · exact .inr (.inl h)
              · exact .inr (.inr (.inr h))) cs
        obtain ⟨v', w', fr, w'', hR, hs', hf⟩ := ih (rem1 ++ rem2).length (by rw [← hm]; simp) ((a, b) :: E) (rem1 ++ rem2) rfl (hp' b) w2 hs2 (hz.rl hE2.rl) r tmps2 cs hI2
        exact ⟨v', w', fr, w'', hR, hs1.trans (hs3.trans hs'), hf⟩
/-! ### The rules -/
/-- What is to come: 0 a float, 1 a call or the like, 2 a maker of memory (it may come from here on), 3 by here it has come. -/
def todoX : List (Nat × Nat) → List Nat
  | [] => []
  | (i, c) :: σ => bif Nat.ble 3 c then todoX σ else i :: todoX σ
def readyX (N : Nat) (T : List Nat) (i : Nat) (D A : List Nat) : Bool := Nat.blt i N && !D.contains i && !A.contains i && (List.range N).all (fun d => !has T i d || D.contains d)
def planX (N : Nat) (T : List Nat) : List (Nat × Nat) → List Nat → List Nat → List Nat → Bool
  | [], τ, D, A => A.isEmpty && (List.range N).all (fun i => D.contains i || τ.contains i) && planOk.tailOk N T τ D
  | (i, 0) :: σ, τ, D, A => readyX N T i D A && planX N T σ τ (i :: D) A
  | (i, 1) :: σ, τ, D, A => readyX N T i D A && (todoX σ ++ τ).all (fun x => has T x i) && planX N T σ τ (i :: D) A
  | (i, 2) :: σ, τ, D, A => readyX N T i D A && planX N T σ τ D (i :: A)
  | (i, _) :: σ, τ, D, A => !D.contains i && A.contains i && (todoX σ ++ τ).all (fun x => has T x i) && planX N T σ τ (i :: D) (A.erase i)
theorem readyX_of {N i : Nat} {D A : List Nat} (h : readyX N T i D A = true) : i < N ∧ i ∉ D ∧ i ∉ A ∧ ∀ d, d < N → has T i d = true → d ∈ D := by
  simp only [readyX, Bool.and_eq_true, Bool.not_eq_true', List.contains_eq_mem, decide_eq_false_iff_not, List.all_eq_true, List.mem_range, Bool.or_eq_true, decide_eq_true_eq, Nat.blt_eq] at h
  refine ⟨h.1.1.1, h.1.1.2, h.1.2, fun d hd hh => ?_⟩
  rcases h.2 d hd with h1 | h1
  · rw [hh] at h1; cases h1
  · exact h1
theorem planX_facts {N : Nat} : ∀ {σ : List (Nat × Nat)} {τ D A : List Nat}, planX N T σ τ D A = true →
    (∀ i, i < N → i ∈ D ∨ i ∈ todoX σ ++ τ ∨ i ∈ A) ∧ (∀ i ∈ todoX σ ++ τ, i ∉ D ∧ i ∉ A) := by
  intro σ
  induction σ with
  | nil =>
    intro τ D A h
    simp only [planX, Bool.and_eq_true, List.all_eq_true, List.mem_range, Bool.or_eq_true, List.contains_eq_mem, decide_eq_true_eq, List.isEmpty_iff] at h
    obtain ⟨⟨rfl, h1⟩, h2⟩ := h
    refine ⟨fun i hi => (h1 i hi).imp id (fun h => .inl (by simpa [todoX] using h)), fun i hi => ⟨tailOk_not h2 i (by simpa [todoX] using hi), by simp⟩⟩
  | cons x σ ih =>
    intro τ D A h
    obtain ⟨i, c⟩ := x
    have e0 : c < 3 → todoX ((i, c) :: σ) = i :: todoX σ := fun h => by
      have : Nat.ble 3 c = false := by cases hb : Nat.ble 3 c; rfl; have := Nat.le_of_ble_eq_true hb; omega
      simp [todoX, this]
    have tl : ∀ {c}, c < 3 → todoX ((i, c) :: σ) = i :: todoX σ → readyX N T i D A = true → planX N T σ τ (i :: D) A = true → (∀ j, j < N → j ∈ D ∨ j ∈ todoX ((i, c) :: σ) ++ τ ∨ j ∈ A) ∧ (∀ j ∈ todoX ((i, c) :: σ) ++ τ, j ∉ D ∧ j ∉ A) := by
      intro c _ e hr hp
      obtain ⟨a1, a2⟩ := ih hp
      obtain ⟨_, r1, r2, _⟩ := readyX_of hr
      rw [e]
      refine ⟨fun j hj => ?_, fun j hj => ?_⟩
      · rcases a1 j hj with h1 | h1 | h1
        · rcases List.mem_cons.1 h1 with rfl | h1
          · exact .inr (.inl (by simp))
          · exact .inl h1
        · exact .inr (.inl (List.mem_cons_of_mem _ h1))
        · exact .inr (.inr h1)
      · rcases List.mem_cons.1 hj with rfl | hj
        · exact ⟨r1, r2⟩
        · have := a2 j hj; exact ⟨fun h => this.1 (List.mem_cons_of_mem _ h), this.2⟩
    match c, h, e0 with
    | 0, h, e0 =>
      simp only [planX, Bool.and_eq_true] at h
      exact tl (by omega) (e0 (by omega)) h.1 h.2
    | 1, h, e0 =>
      simp only [planX, Bool.and_eq_true] at h
      exact tl (by omega) (e0 (by omega)) h.1.1 h.2
    | 2, h, e0 =>
      simp only [planX, Bool.and_eq_true] at h
      obtain ⟨a1, a2⟩ := ih h.2
      obtain ⟨_, r1, r2, _⟩ := readyX_of h.1
      rw [e0 (by omega)]
      refine ⟨fun j hj => ?_, fun j hj => ?_⟩
      · rcases a1 j hj with h1 | h1 | h1
        · exact .inl h1
        · exact .inr (.inl (List.mem_cons_of_mem _ h1))
        · rcases List.mem_cons.1 h1 with rfl | h1
          · exact .inr (.inl (by simp))
          · exact .inr (.inr h1)
      · rcases List.mem_cons.1 hj with rfl | hj
        · exact ⟨r1, r2⟩
        · have := a2 j hj; exact ⟨this.1, fun h => this.2 (List.mem_cons_of_mem _ h)⟩
    | c + 3, h, _ =>
      simp only [planX, Bool.and_eq_true, Bool.not_eq_true', List.contains_eq_mem, decide_eq_false_iff_not, decide_eq_true_eq, List.all_eq_true] at h
      obtain ⟨⟨⟨h1, h2⟩, h3⟩, h4⟩ := h
      obtain ⟨a1, a2⟩ := ih h4
      have e : todoX ((i, c + 3) :: σ) = todoX σ := by
        have : Nat.ble 3 (c + 3) = true := Nat.ble_eq_true_of_le (by omega)
        simp [todoX, this]
      rw [e]
      refine ⟨fun j hj => ?_, fun j hj => ?_⟩
      · rcases a1 j hj with h5 | h5 | h5
        · rcases List.mem_cons.1 h5 with rfl | h5
          · exact .inr (.inr h2)
          · exact .inl h5
        · exact .inr (.inl h5)
        · exact .inr (.inr (List.mem_of_mem_erase h5))
      · have h5 := a2 j hj
        refine ⟨fun h => h5.1 (List.mem_cons_of_mem _ h), fun h => ?_⟩
        by_cases he : j = i
        · exact h5.1 (he ▸ List.mem_cons_self)
        · exact h5.2 ((List.mem_erase_of_ne he).2 h)
/-- The judgement: A: makers that may have come already; C: the chunks but for theirs. -/
def JX (P : Program) (f : FuncId) (ro : Option Nat) (n : Nat) (R : Value → World → Prop) (ops : Array Oper) (T : List Nat) (w0 : World) (F Z : Nat → Prop) (N0 : Nat) (C0 : List HP) (A : List AE) (σ : List (Nat × Nat)) (τ : List Nat) (D : List (Nat × Value)) (env0 : Env) (k : List Item) (ds : List Deferred) (env : Env) (C : List HP) : Prop :=
  XOk P ops T n w0 F A (todoX σ ++ τ) D env0 env → planX ops.size T σ τ (D.map (·.1)) (A.map (·.i)) = true →
    ∀ (E : List (AE × Nat)) (rem : List AE), (E.map (·.1) ++ rem).Perm A → ∀ W, St w0 F W (E.map AE.ch ++ C) → ZOk w0 F Z N0 C0 W → ∀ l, JC P f ro n R ops T Z ((todoX σ ++ τ) ++ rem.map (·.i)) (E.map AE.tell ++ D) env0 k ds W l
/-- The same in the world w', X being what the makers have made till now. -/
def JXat (P : Program) (f : FuncId) (ro : Option Nat) (n : Nat) (R : Value → World → Prop) (ops : Array Oper) (T : List Nat) (w0 : World) (F Z : Nat → Prop) (N0 : Nat) (C0 : List HP) (A : List AE) (σ : List (Nat × Nat)) (τ : List Nat) (D : List (Nat × Value)) (env0 : Env) (k : List Item) (ds : List Deferred) (env : Env) (w' : World) (X : HP) : Prop :=
  XOk P ops T n w0 F A (todoX σ ++ τ) D env0 env → planX ops.size T σ τ (D.map (·.1)) (A.map (·.i)) = true →
    ∀ (E : List (AE × Nat)) (rem : List AE), (E.map (·.1) ++ rem).Perm A → X = Star (E.map AE.ch) → ZOk w0 F Z N0 C0 w' → ∀ l, JC P f ro n R ops T Z ((todoX σ ++ τ) ++ rem.map (·.i)) (E.map AE.tell ++ D) env0 k ds w' l
theorem St.star {A C : List HP} (h : St w0 F w (A ++ C)) : St w0 F w (Star A :: C) := by
  obtain ⟨h1, h2, h3⟩ := List.pairwise_append.1 h.sep
  refine ⟨h.frm, fun c hc => ?_, fun c hc k hk => ?_, List.pairwise_cons.2 ⟨fun c hc k ⟨a, ha, hk⟩ hck => h3 a ha c hc k hk hck, h2⟩⟩
  · rcases List.mem_cons.1 hc with rfl | hc
    · exact ⟨fun c hc => h.all c (List.mem_append_left _ hc), h1⟩
    · exact h.all c (List.mem_append_right _ hc)
  · rcases List.mem_cons.1 hc with rfl | hc
    · obtain ⟨a, ha, hk⟩ := hk
      exact h.foot a (List.mem_append_left _ ha) k hk
    · exact h.foot c (List.mem_append_right _ hc) k hk
theorem St.unstar {A C : List HP} (h : St w0 F w (Star A :: C)) : St w0 F w (A ++ C) := by
  obtain ⟨h1, h2⟩ := List.pairwise_cons.1 h.sep
  have hh := h.all _ List.mem_cons_self
  refine ⟨h.frm, fun c hc => ?_, fun c hc k hk => ?_, List.pairwise_append.2 ⟨hh.2, h2, fun a ha c hc k hk hck => h1 c hc k ⟨a, ha, hk⟩ hck⟩⟩
  · rcases List.mem_append.1 hc with hc | hc
    · exact hh.1 c hc
    · exact h.all c (List.mem_cons_of_mem _ hc)
  · rcases List.mem_append.1 hc with hc | hc
    · exact h.foot _ List.mem_cons_self k ⟨c, hc, hk⟩
    · exact h.foot c (List.mem_cons_of_mem _ hc) k hk
section
variable {A : List AE} {σ : List (Nat × Nat)} {C : List HP}
theorem JX.at {w' : World} {X : HP} {L : List HP} [t : Take L X C] (hs : St w0 F w' L) (h : JX P f ro n R ops T w0 F Z N0 C0 A σ τ D env0 k ds env C) : JXat P f ro n R ops T w0 F Z N0 C0 A σ τ D env0 k ds env w' X := by
  intro ok hp E rem hper hX hz l
  subst hX
  exact h ok hp E rem hper w' (hs.perm t.h).unstar hz l
theorem XOk.next {σ' : List (Nat × Nat)} {A' : List AE} {env' : Env} {M : List Nat} (ok : XOk P ops T n w0 F A M D env0 env) (hn : Node ops T n D' env0 env') (hpend : ∀ a ∈ A', PendA P ops T w0 F D' env0 a) (hnod : (A'.map (·.i)).Nodup) (haD : ∀ a ∈ A', a.i ∉ D'.map (·.1))
    (hp : planX ops.size T σ' τ (D'.map (·.1)) (A'.map (·.i)) = true) : XOk P ops T n w0 F A' (todoX σ' ++ τ) D' env0 env' :=
  ⟨ok.tab, ok.names, hn, hpend, hnod, haD, (planX_facts hp).1, fun i hi => ((planX_facts hp).2 i hi).1, fun i hi => ((planX_facts hp).2 i hi).2⟩
theorem XOk.tell {i : Nat} {o : Oper} {u : Value} {M : List Nat} (ok : XOk P ops T n w0 F A M D env0 env) (hr : readyX ops.size T i (D.map (·.1)) (A.map (·.i)) = true) (ho : ops[i]? = some o) (hp : planX ops.size T σ τ (i :: D.map (·.1)) (A.map (·.i)) = true) :
    XOk P ops T n w0 F A (todoX σ ++ τ) ((i, u) :: D) env0 (put env o.dst u) := by
  obtain ⟨_, r1, r2, r3⟩ := readyX_of hr
  exact ok.next (ok.node.more ho r1 r3) (fun a ha => (ok.pend a ha).more (fun x hx => List.mem_cons_of_mem _ hx)) ok.anod (fun a ha h => by
    rcases List.mem_cons.1 h with h | h
    · exact r2 (List.mem_map.2 ⟨a, ha, h⟩)
    · exact ok.aD a ha h) hp
theorem JX_start (hok : XOk P ops T n w0 F [] (todoX σ ++ τ) [] env env) (hp : planX ops.size T σ τ [] [] = true) (hs : St w0 F w C) (hz : ZOk w0 F Z N0 C0 w) (h : JX P f ro n R ops T w0 F Z N0 C0 [] σ τ [] env k ds env C) (l : List Nat) : JC P f ro n R ops T Z (todoX σ ++ τ) [] env k ds w l := by
  have := h hok hp [] [] (List.Perm.refl _) w hs hz l
  simpa using this
theorem JX_floatG {i : Nat} {o : Oper} {u : Value} (ho : ops[i]? = some o) (hnd : notDefer o.op = true) (h : ∀ W W' X, St w0 F W (X :: C) → ZOk w0 F Z N0 C0 W' → Rl Z W W' → OpG P ops env o W' (fun v w' => v = u ∧ w' = W'))
    (hk : JX P f ro n R ops T w0 F Z N0 C0 A σ τ ((i, u) :: D) env0 k ds (put env o.dst u) C) : JX P f ro n R ops T w0 F Z N0 C0 A ((i, 0) :: σ) τ D env0 k ds env C := by
  intro ok hp E rem hper W hs hz l tmps cs hI
  simp only [planX, Bool.and_eq_true] at hp
  obtain ⟨_, r1, r2, r3⟩ := readyX_of hp.1
  have e0 : todoX ((i, 0) :: σ) = i :: todoX σ := rfl
  have hr := ok.node.reads ok.names ho r1 r3
  have hil : i ∈ l := hI.rest i (by rw [e0]; simp)
  have hEA : ∀ x ∈ E, x.1.i ∈ A.map (·.i) := fun x hx => List.mem_map.2 ⟨x.1, hper.mem_iff.1 (List.mem_append_left _ (List.mem_map.2 ⟨x, hx, rfl⟩)), rfl⟩
  refine hk (ok.tell hp.1 ho hp.2) hp.2 E rem hper W hs hz l tmps cs ⟨hI.lin, hI.nodup, fun j hj => ⟨(hI.part j hj).1, ?_⟩, fun j hj => hI.rest j (by rw [e0]; exact List.mem_cons_of_mem _ hj), hI.closed, hI.size, fun t v htv => hI.tm t v ?_, fun j x hj hjl => ?_⟩
  · rcases (hI.part j hj).2 with h1 | h1
    · rw [e0] at h1
      rcases List.mem_cons.1 h1 with rfl | h1
      · exact .inr (keysE.2 (.inr (by simp)))
      · exact .inl h1
    · rcases keysE.1 h1 with h1 | h1
      · exact .inr (keysE.2 (.inl h1))
      · exact .inr (keysE.2 (.inr (List.mem_cons_of_mem _ h1)))
  · rcases htv with ⟨j, hj, hjl, hjd⟩ | h1
    · rcases List.mem_append.1 hj with hj | hj
      · exact .inl ⟨j, List.mem_append_left _ hj, hjl, hjd⟩
      · rcases List.mem_cons.1 hj with e | hj
        · cases e; exact absurd hil hjl
        · exact .inl ⟨j, List.mem_append_right _ hj, hjl, hjd⟩
    · exact .inr h1
  · have hsub : ∀ y ∈ E.map AE.tell ++ D, y ∈ E.map AE.tell ++ (i, u) :: D := fun y hy => by
      rcases List.mem_append.1 hy with hy | hy
      · exact List.mem_append_left _ hy
      · exact List.mem_append_right _ (List.mem_cons_of_mem _ hy)
    have old : (j, x) ∈ E.map AE.tell ++ D → Pend P ops T Z (E.map AE.tell ++ (i, u) :: D) env0 j x W := fun hm => by
      obtain ⟨o', e', a1, a2, a3, a4⟩ := hI.pend j x hm hjl
      exact ⟨o', e', a1, a2, fun t v ht hv => (a3 t v ht hv).imp (fun ⟨y, b1, b2⟩ => ⟨y, hsub _ b1, b2⟩) id, a4⟩
    rcases List.mem_append.1 hj with hj | hj
    · exact old (List.mem_append_left _ hj)
    · rcases List.mem_cons.1 hj with e | hj
      · cases e
        exact ⟨o, env, ho, hnd, ReadsAt.more hr (fun y hy => List.mem_append_right _ (List.mem_cons_of_mem _ hy)), fun W' hW => h W W' _ hs.star (hz.rl hW) hW⟩
      · exact old (List.mem_append_right _ hj)
theorem JX_float {i : Nat} {o : Oper} {u : Value} (ho : ops[i]? = some o) (hnd : notDefer o.op = true) (h : ∀ W X, St w0 F W (X :: C) → OpG P ops env o W (fun v w' => v = u ∧ w' = W))
    (hk : JX P f ro n R ops T w0 F NoF N0 C0 A σ τ ((i, u) :: D) env0 k ds (put env o.dst u) C) : JX P f ro n R ops T w0 F NoF N0 C0 A ((i, 0) :: σ) τ D env0 k ds env C :=
  JX_floatG ho hnd (fun _ W' X hs _ hr => h W' X (hs.ext (hr.ext (fun _ h => h)))) hk
theorem JX_floatZ {i : Nat} {o : Oper} {u : Value} (ho : ops[i]? = some o) (hnd : notDefer o.op = true) (h : ∀ W, St w0 F W C0 → OpG P ops env o W (fun v w' => v = u ∧ w' = W))
    (hk : JX P f ro n R ops T w0 F Z N0 C0 A σ τ ((i, u) :: D) env0 k ds (put env o.dst u) C) : JX P f ro n R ops T w0 F Z N0 C0 A ((i, 0) :: σ) τ D env0 k ds env C :=
  JX_floatG ho hnd (fun _ W' _ _ hz _ => h W' hz.st) hk
theorem JX_hard {i : Nat} {o : Oper} {S : World → HP → Value → World → Prop} (ho : ops[i]? = some o) (hnd : notDefer o.op = true) (h : ∀ W X, N0 ≤ W.heap.size → St w0 F W (X :: C) → OpG P ops env o W (S W X)) (hS : ∀ W X v w', S W X v w' → Rl Z W w')
    (hk : ∀ W X v w', N0 ≤ W.heap.size → St w0 F W (X :: C) → S W X v w' → JXat P f ro n R ops T w0 F Z N0 C0 A σ τ ((i, v) :: D) env0 k ds (put env o.dst v) w' X) : JX P f ro n R ops T w0 F Z N0 C0 A ((i, 1) :: σ) τ D env0 k ds env C := by
  intro ok hp E rem hper W hs hz l
  simp only [planX, Bool.and_eq_true, List.all_eq_true] at hp
  obtain ⟨⟨hp1, hp2⟩, hp3⟩ := hp
  obtain ⟨_, r1, r2, r3⟩ := readyX_of hp1
  have e0 : todoX ((i, 1) :: σ) = i :: todoX σ := rfl
  refine JC_adv (C := C) ok (fun E rem hper W hs hz l hl => ?_) rem.length E rem rfl hper W hs hz l
  have hEA : ∀ x ∈ E, x.1.i ∈ A.map (·.i) := fun x hx => List.mem_map.2 ⟨x.1, hper.mem_iff.1 (List.mem_append_left _ (List.mem_map.2 ⟨x, hx, rfl⟩)), rfl⟩
  have hiE : i ∉ (E.map AE.tell ++ D).map (·.1) := fun hm => by
    rcases keysE.1 hm with ⟨x, hx, he⟩ | hm
    · exact r2 (he ▸ hEA x hx)
    · exact r1 hm
  rcases hl with ⟨_, he, _⟩ | ⟨j, r, rfl, hj, hdeps⟩
  · rw [e0] at he; cases he
  · have hji : j = i := by
      rw [e0] at hj
      rcases List.mem_cons.1 hj with h1 | h1
      · exact h1
      · exact absurd (hdeps i (Array.getElem?_eq_some_iff.1 ho).1 (hp2 j h1)) hiE
    subst hji
    intro tmps cs hI
    have hkeys : ((E.map AE.tell ++ D).map (·.1)).Nodup := by
      have hn : ((E.map (·.1) ++ rem).map (·.i)).Nodup := (hper.map _).nodup_iff.2 ok.anod
      rw [List.map_append, List.map_map] at hn
      rw [List.map_append, List.map_map]
      refine List.nodup_append.2 ⟨(List.nodup_append.1 hn).1, ok.node.keys, fun a ha b hb he => ?_⟩
      obtain ⟨x, hx, rfl⟩ := List.mem_map.1 ha
      exact ok.aD x.1 (hper.mem_iff.1 (List.mem_append_left _ (List.mem_map.2 ⟨x, hx, rfl⟩))) (by rw [← he] at hb; exact hb)
    obtain ⟨v, w2, tmps', hSv, hI2, hst⟩ := Inv.exec (f := f) (ro := ro) (ds := ds) (k := k) (todo' := (todoX σ ++ τ) ++ rem.map (·.i)) ok.tab ok.names ok.node.dst hkeys hiE hI ho (ReadsAt.more (D := D) (o := o) (ok.node.reads ok.names ho r1 r3) (fun x hx => List.mem_append_right _ hx)) hnd (h W _ hz.size hs.star) (hS W _)
      (fun x hx => by rw [e0] at hx; exact (List.mem_cons.1 hx))
      (fun x hx => by
        refine ⟨fun he => ?_, by rw [e0]; exact List.mem_cons_of_mem _ hx⟩
        subst he
        rcases List.mem_append.1 hx with h1 | h1
        · have := hp2 x h1
          have := has_lt ok.tab (x + 1) x (by omega) (Array.getElem?_eq_some_iff.1 ho).1 x this; omega
        · obtain ⟨a, ha, he⟩ := List.mem_map.1 h1
          exact r2 (List.mem_map.2 ⟨a, hper.mem_iff.1 (List.mem_append_right _ ha), he⟩)) cs
    obtain ⟨v', w', fr, w'', hR, hs', hf⟩ := hk W _ v w2 hz.size hs.star hSv (ok.tell hp1 ho hp3) hp3 E rem hper rfl (hz.rl (hS W _ v w2 hSv)) r tmps' cs (hI2.same (fun _ => Iff.rfl) (fun x => by
      simp only [List.mem_cons, List.mem_append]; constructor
      · rintro (h | h | h)
        · exact .inr (.inl h)
        · exact .inl h
        · exact .inr (.inr h)
      · rintro (h | h | h)
        · exact .inr (.inl h)
        · exact .inl h
        · exact .inr (.inr h)))
    exact ⟨v', w', fr, w'', hR, hst.trans hs', hf⟩
theorem JX_new {i t : Nat} {o : Oper} {obj : Obj} {mk : Nat → Value} (ho : ops[i]? = some o) (hnd : notDefer o.op = true) (hdst : o.dst = some t) (h : ∀ W L, St w0 F W L → OpG P ops env o W (NewAt w0 F W L obj mk))
    (hk : JX P f ro n R ops T w0 F Z N0 C0 (⟨i, t, obj, mk⟩ :: A) σ τ D env0 k ds env C) : JX P f ro n R ops T w0 F Z N0 C0 A ((i, 2) :: σ) τ D env0 k ds env C := by
  intro ok hp E rem hper W hs hz l
  simp only [planX, Bool.and_eq_true] at hp
  obtain ⟨_, r1, r2, r3⟩ := readyX_of hp.1
  have e0 : todoX ((i, 2) :: σ) = i :: todoX σ := rfl
  have ok' : XOk P ops T n w0 F (⟨i, t, obj, mk⟩ :: A) (todoX σ ++ τ) D env0 env := ok.next ok.node (fun a ha => by
      rcases List.mem_cons.1 ha with rfl | ha
      · exact ⟨o, env, ho, hnd, hdst, ok.node.reads ok.names ho r1 r3, r3, h⟩
      · exact ok.pend a ha) (by simp only [List.map_cons, List.nodup_cons]; exact ⟨r2, ok.anod⟩) (fun a ha => by
      rcases List.mem_cons.1 ha with rfl | ha
      · exact r1
      · exact ok.aD a ha) hp.2
  refine (hk ok' hp.2 E (⟨i, t, obj, mk⟩ :: rem) (List.perm_middle.trans (List.Perm.cons _ hper)) W hs hz l).same (fun j => ?_) (fun _ => Iff.rfl)
  rw [e0]
  simp only [List.map_cons, List.mem_append, List.mem_cons, List.cons_append]
  constructor
  · rintro ((h | h) | h | h)
    · exact .inr (.inl (.inl h))
    · exact .inr (.inl (.inr h))
    · exact .inl h
    · exact .inr (.inr h)
  · rintro (h | (h | h) | h)
    · exact .inr (.inl h)
    · exact .inl (.inl h)
    · exact .inl (.inr h)
    · exact .inr (.inr h)
theorem todoX_know (i : Nat) (σ : List (Nat × Nat)) : todoX ((i, 3) :: σ) = todoX σ := rfl
theorem JX_know {i t : Nat} {obj : Obj} {mk : Nat → Value} {A1 A2 : List AE} (hA : A = A1 ++ ⟨i, t, obj, mk⟩ :: A2) (hi1 : (A1.map (·.i)).contains i = false)
    (hk : ∀ b, JX P f ro n R ops T w0 F Z N0 C0 (A1 ++ A2) σ τ ((i, mk b) :: D) env0 k ds ((t, mk b) :: env) (Blk b obj :: C)) : JX P f ro n R ops T w0 F Z N0 C0 A ((i, 3) :: σ) τ D env0 k ds env C := by
  intro ok hp E rem hper W hs hz l
  subst hA
  simp only [planX, Bool.and_eq_true, List.all_eq_true, Bool.not_eq_true', List.contains_eq_mem, decide_eq_false_iff_not, decide_eq_true_eq] at hp hi1
  obtain ⟨⟨⟨hp0, hp1⟩, hp2⟩, hp3⟩ := hp
  have haA : (⟨i, t, obj, mk⟩ : AE) ∈ A1 ++ ⟨i, t, obj, mk⟩ :: A2 := List.mem_append_right _ List.mem_cons_self
  obtain ⟨o, e, ho, hnd, hdst, hr, hd5, hG⟩ := ok.pend _ haA
  dsimp only at ho hdst hr hd5 hG
  have her : ((A1 ++ ⟨i, t, obj, mk⟩ :: A2).map (·.i)).erase i = (A1 ++ A2).map (·.i) := by
    rw [List.map_append, List.map_cons, List.erase_append_right _ hi1, List.erase_cons_head, List.map_append]
  rw [her] at hp3
  rw [todoX_know]
  rw [todoX_know] at ok
  refine JC_adv (C := C) ok (fun E rem hper W hs hz l hl => ?_) rem.length E rem rfl hper W hs hz l
  have hE : ∃ b, ((⟨i, t, obj, mk⟩, b) : AE × Nat) ∈ E := by
    have hmem := hper.mem_iff.2 haA
    have hno : (⟨i, t, obj, mk⟩ : AE) ∉ rem ∨ ∃ x ∈ E, x.1.i = i := by
      rcases hl with ⟨_, _, rfl⟩ | ⟨j, r, _, hj, hdeps⟩
      · exact .inl (by simp)
      · rcases keysE.1 (hdeps i (Array.getElem?_eq_some_iff.1 ho).1 (hp2 j hj)) with h | h
        · exact .inr h
        · exact absurd h hp0
    rcases List.mem_append.1 hmem with h | h
    · obtain ⟨x, hx, he⟩ := List.mem_map.1 h
      exact ⟨x.2, by rw [← he]; exact hx⟩
    · rcases hno with h' | ⟨x, hx, he⟩
      · exact absurd h h'
      · exfalso
        have hn : ((E.map (·.1) ++ rem).map (·.i)).Nodup := (hper.map _).nodup_iff.2 ok.anod
        rw [List.map_append, List.map_map] at hn
        exact (List.nodup_append.1 hn).2.2 _ (List.mem_map.2 ⟨x, hx, rfl⟩) _ (List.mem_map.2 ⟨_, h, rfl⟩) he
  obtain ⟨b, hb⟩ := hE
  obtain ⟨E1, E2, rfl⟩ := List.append_of_mem hb
  have hper' : ((E1 ++ E2).map (·.1) ++ rem).Perm (A1 ++ A2) := by
    have h1 : (E1.map (·.1) ++ (⟨i, t, obj, mk⟩ :: (E2.map (·.1) ++ rem))).Perm (A1 ++ ⟨i, t, obj, mk⟩ :: A2) := by
      have := hper; simp only [List.map_append, List.map_cons, List.append_assoc, List.cons_append] at this; exact this
    have h2 := (List.perm_middle.symm.trans (h1.trans List.perm_middle)).cons_inv
    rw [List.map_append, List.append_assoc]; exact h2
  have hs' : St w0 F W ((E1 ++ E2).map AE.ch ++ Blk b obj :: C) := by
    refine hs.perm ?_
    simp only [List.map_append, List.map_cons, List.append_assoc, List.cons_append]
    refine List.Perm.append_left _ ?_
    exact List.perm_middle.symm
  have hnd' : Node ops T n ((i, mk b) :: D) env0 ((t, mk b) :: env) := by
    have := ok.node.more (u := mk b) ho hp0 hd5
    rw [hdst] at this; exact this
  have hanod : ((A1 ++ A2).map (·.i)).Nodup := by
    rw [← her]; exact ok.anod.erase _
  have ok' : XOk P ops T n w0 F (A1 ++ A2) (todoX σ ++ τ) ((i, mk b) :: D) env0 ((t, mk b) :: env) := ok.next hnd'
    (fun a ha => (ok.pend a (by rcases List.mem_append.1 ha with h | h; exact List.mem_append_left _ h; exact List.mem_append_right _ (List.mem_cons_of_mem _ h))).more (fun x hx => List.mem_cons_of_mem _ hx))
    hanod (fun a ha h => by
      have haA' : a ∈ A1 ++ ⟨i, t, obj, mk⟩ :: A2 := by rcases List.mem_append.1 ha with h | h; exact List.mem_append_left _ h; exact List.mem_append_right _ (List.mem_cons_of_mem _ h)
      rcases List.mem_cons.1 h with h | h
      · have hn := ok.anod
        rw [List.map_append, List.map_cons] at hn
        have hn2 := (List.nodup_cons.1 (List.perm_middle.nodup_iff.1 hn)).1
        rw [← List.map_append] at hn2
        exact hn2 (List.mem_map.2 ⟨a, ha, h⟩)
      · exact ok.aD a haA' h) hp3
  refine (hk b ok' hp3 (E1 ++ E2) rem hper' W hs' hz l).same (fun _ => Iff.rfl) (fun x => ?_)
  simp only [List.map_append, List.map_cons, List.mem_append, List.mem_cons, AE.tell]
  constructor
  · rintro ((h | h) | h | h)
    · exact .inl (.inl h)
    · exact .inl (.inr (.inr h))
    · exact .inl (.inr (.inl h))
    · exact .inr h
  · rintro ((h | h | h) | h)
    · exact .inl (.inl h)
    · exact .inr (.inl h)
    · exact .inl (.inr h)
    · exact .inr (.inr h)
theorem planX_end {N : Nat} {τ D : List Nat} (h : planX N T [] τ D [] = true) : planOk N T [] τ D = true := by
  simp only [planX, List.isEmpty_nil, Bool.true_and] at h
  simpa [planOk] using h
theorem JX_done (h : ∀ W, St w0 F W C → JD P f ro n R ops T Z [] τ D env0 k ds env W) : JX P f ro n R ops T w0 F Z N0 C0 [] [] τ D env0 k ds env C := by
  intro ok hp E rem hper W hs hz l tmps cs hI
  have hE : E = [] ∧ rem = [] := by
    have := hper.length_eq
    simp at this
    exact this
  obtain ⟨rfl, rfl⟩ := hE
  exact h W hs ok.tab ok.names (planX_end hp) ok.node l tmps cs (by simpa [todoX] using hI)
/-- A region that draws its order. -/
theorem J_drawG {id : Nat} (T : List Nat) (σ : List (Nat × Nat)) (τ : List Nat) (hs : St w0 F w C) (hz : ZOk w0 F Z N0 C0 w) (hm : P.follows .mixedOrders = true) (hT : tabOk ops T = true) (hN : namesOk ops T = true) (hp : planX ops.size T σ τ [] [] = true) (hlt : (todoX σ ++ τ).all (fun i => Nat.blt i ops.size) = true) (hdst : ops.toList.all (dstOk n) = true)
    (hk : JX P f ro n R ops T w0 F Z N0 C0 [] σ τ [] env k ds env C) : J P f ro n R (.code (.region id ops true) :: k) ds env w := by
  intro tmps cs hn hmt
  have hst := stepR_region_draw (P := P) (b := base f ro) (a := ⟨tmps, ds⟩) (k := k) (cs := cs) (w := w) (ops := ops) (id := id)
  simp only [Region.schedule, hm, Bool.true_or, if_true] at hst
  have hS := sched_all hT (w.tape w.drawn (.order (base f ro).fn id))
  have hcover := (planX_facts hp).1
  have nd : Node ops T n [] env env := ⟨by simp, fun i hi => by simp at hi, fun i hi => by simp at hi, fun t v hv => .inr ⟨fun i hi => by simp at hi, hv⟩, fun i o ho => List.all_eq_true.1 hdst o (by simpa using Array.mem_of_getElem? ho)⟩
  have ok : XOk P ops T n w0 F [] (todoX σ ++ τ) [] env env := ⟨hT, hN, nd, by simp, by simp, by simp, by simpa using hcover, by simp, by simp⟩
  simp only [List.all_eq_true, Nat.blt_eq] at hlt
  have hI : Inv P ops T Z n (Region.linearise .any ops (w.tape w.drawn (.order (base f ro).fn id))) (todoX σ ++ τ) [] env tmps { w with drawn := w.drawn + 1 } := by
    refine ⟨hS.lin, hS.nodup, fun i hi => ⟨((hS.mem i).1 hi).1, .inl ?_⟩, fun i hi => (hS.mem i).2 ⟨hlt i hi, fun h => h⟩,
      fun j hj hjl => absurd ((hS.mem j).2 ⟨hj, fun h => h⟩) hjl, hn, fun t v htv => ?_, fun i u hi => by simp at hi⟩
    · rcases hcover i ((hS.mem i).1 hi).1 with h | h | h
      · simp at h
      · exact h
      · simp at h
    · rcases htv with ⟨i, hi, _⟩ | ⟨_, h2⟩
      · simp at hi
      · exact hmt t v h2
  obtain ⟨v', w', fr, w'', hR, hs', hf⟩ := JX_start ok hp (hs.ext (Ext.drew w)) (hz.rl (Ext.drew w).rl) hk _ tmps cs hI
  exact ⟨v', w', fr, w'', hR, .head hst hs', hf⟩
theorem J_drawX {id : Nat} (T : List Nat) (σ : List (Nat × Nat)) (τ : List Nat) (hs : St w0 F w C) (hm : P.follows .mixedOrders = true) (hT : tabOk ops T = true) (hN : namesOk ops T = true) (hp : planX ops.size T σ τ [] [] = true) (hlt : (todoX σ ++ τ).all (fun i => Nat.blt i ops.size) = true) (hdst : ops.toList.all (dstOk n) = true)
    (hk : JX P f ro n R ops T w0 F NoF 0 [] [] σ τ [] env k ds env C) : J P f ro n R (.code (.region id ops true) :: k) ds env w :=
  J_drawG T σ τ hs (ZOk.none (hs.sub (List.nil_sublist _))) hm hT hN hp hlt hdst hk
theorem J_drawZ {id : Nat} (T : List Nat) (σ : List (Nat × Nat)) (τ : List Nat) (hs : St w0 F w C) (hm : P.follows .mixedOrders = true) (hT : tabOk ops T = true) (hN : namesOk ops T = true) (hp : planX ops.size T σ τ [] [] = true) (hlt : (todoX σ ++ τ).all (fun i => Nat.blt i ops.size) = true) (hdst : ops.toList.all (dstOk n) = true)
    (hk : ∀ N, N = w.heap.size → JX P f ro n R ops T w0 F (fun k => N ≤ k) N C [] σ τ [] env k ds env C) : J P f ro n R (.code (.region id ops true) :: k) ds env w :=
  J_drawG T σ τ hs ⟨fun k hk h => by have := hs.frm.size; omega, fun c hc k hk h => by have := (hs.foot c hc k hk).1; omega, hs, Nat.le_refl _⟩ hm hT hN hp hlt hdst (hk _ rfl)
/-! ### As a walk uses them -/
variable {op : Op} {ty : TypeId} {pos : String} {af : Array Edge}
theorem JX_f {i t : Nat} {u : Value} (ho : ops[i]? = some ⟨some t, op, ty, pos, af, none⟩) (h : ∀ W X, St w0 F W (X :: C) → OpR P env ⟨some t, op, ty, pos, af, none⟩ W (Is u W)) (hnd : notDefer op = true)
    (hk : JX P f ro n R ops T w0 F NoF N0 C0 A σ τ ((i, u) :: D) env0 k ds ((t, u) :: env) C) : JX P f ro n R ops T w0 F NoF N0 C0 A ((i, 0) :: σ) τ D env0 k ds env C :=
  JX_float ho hnd (fun W X hs => OpG_none rfl (h W X hs)) hk
theorem JX_fz {i t : Nat} {u : Value} (ho : ops[i]? = some ⟨some t, op, ty, pos, af, none⟩) (h : ∀ W, St w0 F W C0 → OpR P env ⟨some t, op, ty, pos, af, none⟩ W (Is u W)) (hnd : notDefer op = true)
    (hk : JX P f ro n R ops T w0 F Z N0 C0 A σ τ ((i, u) :: D) env0 k ds ((t, u) :: env) C) : JX P f ro n R ops T w0 F Z N0 C0 A ((i, 0) :: σ) τ D env0 k ds env C :=
  JX_floatZ ho hnd (fun W hs => OpG_none rfl (h W hs)) hk
theorem JX_f_on {i t : Nat} {u : Value} {j : Nat} {c b : Bool} (ho : ops[i]? = some ⟨some t, op, ty, pos, af, some (j, c)⟩) (hv : gval ops env j = some b) (hb : b = c) (h : ∀ W X, St w0 F W (X :: C) → OpR P env ⟨some t, op, ty, pos, af, some (j, c)⟩ W (Is u W)) (hnd : notDefer op = true)
    (hk : JX P f ro n R ops T w0 F NoF N0 C0 A σ τ ((i, u) :: D) env0 k ds ((t, u) :: env) C) : JX P f ro n R ops T w0 F NoF N0 C0 A ((i, 0) :: σ) τ D env0 k ds env C :=
  JX_float ho hnd (fun W X hs => OpG_on rfl hv hb (h W X hs)) hk
theorem JX_f_off {i t : Nat} {j : Nat} {c b : Bool} (ho : ops[i]? = some ⟨some t, op, ty, pos, af, some (j, c)⟩) (hv : gval ops env j = some b) (hb : b = !c) (hnd : notDefer op = true)
    (hk : JX P f ro n R ops T w0 F Z N0 C0 A σ τ ((i, undef) :: D) env0 k ds ((t, undef) :: env) C) : JX P f ro n R ops T w0 F Z N0 C0 A ((i, 0) :: σ) τ D env0 k ds env C :=
  JX_floatZ ho hnd (fun _ _ => OpG_off rfl hv hb ⟨rfl, rfl⟩) hk
theorem JX_f_und {i t : Nat} {j : Nat} {c : Bool} (ho : ops[i]? = some ⟨some t, op, ty, pos, af, some (j, c)⟩) (hv : Gund ops env j) (hnd : notDefer op = true)
    (hk : JX P f ro n R ops T w0 F Z N0 C0 A σ τ ((i, undef) :: D) env0 k ds ((t, undef) :: env) C) : JX P f ro n R ops T w0 F Z N0 C0 A ((i, 0) :: σ) τ D env0 k ds env C :=
  JX_floatZ ho hnd (fun _ _ => OpG_und rfl hv ⟨rfl, rfl⟩) hk
theorem JX_c_und {i t : Nat} {j : Nat} {c : Bool} (ho : ops[i]? = some ⟨some t, op, ty, pos, af, some (j, c)⟩) (hv : Gund ops env j) (hnd : notDefer op = true)
    (hk : JX P f ro n R ops T w0 F Z N0 C0 A σ τ ((i, undef) :: D) env0 k ds ((t, undef) :: env) C) : JX P f ro n R ops T w0 F Z N0 C0 A ((i, 1) :: σ) τ D env0 k ds env C :=
  JX_hard (S := fun W _ => Is undef W) ho hnd (fun W X hN hs => OpG_und rfl hv is_rfl) (fun W X v w' ⟨_, e⟩ => by rw [e]; exact Rl.refl _) (fun W X v w' hN hs ⟨e1, e2⟩ => by rw [e1, e2]; exact JX.at hs hk)
theorem JX_n {i t : Nat} {obj : Obj} {mk : Nat → Value} (ho : ops[i]? = some ⟨some t, op, ty, pos, af, none⟩) (h : ∀ W L, St w0 F W L → OpR P env ⟨some t, op, ty, pos, af, none⟩ W (NewAt w0 F W L obj mk)) (hnd : notDefer op = true)
    (hk : JX P f ro n R ops T w0 F Z N0 C0 (⟨i, t, obj, mk⟩ :: A) σ τ D env0 k ds env C) : JX P f ro n R ops T w0 F Z N0 C0 A ((i, 2) :: σ) τ D env0 k ds env C :=
  JX_new ho hnd rfl (fun W L hs => OpG_none rfl (h W L hs)) hk
theorem JX_c {i t : Nat} {S : World → HP → Value → World → Prop} (ho : ops[i]? = some ⟨some t, op, ty, pos, af, none⟩) (h : ∀ W X, N0 ≤ W.heap.size → St w0 F W (X :: C) → OpR P env ⟨some t, op, ty, pos, af, none⟩ W (S W X)) (hS : ∀ W X v w', S W X v w' → Rl Z W w') (hnd : notDefer op = true)
    (hk : ∀ W X v w', N0 ≤ W.heap.size → St w0 F W (X :: C) → S W X v w' → JXat P f ro n R ops T w0 F Z N0 C0 A σ τ ((i, v) :: D) env0 k ds ((t, v) :: env) w' X) : JX P f ro n R ops T w0 F Z N0 C0 A ((i, 1) :: σ) τ D env0 k ds env C :=
  JX_hard ho hnd (fun W X hN hs => OpG_none rfl (h W X hN hs)) hS hk
theorem JX_c_on {i t : Nat} {S : World → HP → Value → World → Prop} {j : Nat} {c b : Bool} (ho : ops[i]? = some ⟨some t, op, ty, pos, af, some (j, c)⟩) (hv : gval ops env j = some b) (hb : b = c) (h : ∀ W X, N0 ≤ W.heap.size → St w0 F W (X :: C) → OpR P env ⟨some t, op, ty, pos, af, some (j, c)⟩ W (S W X)) (hS : ∀ W X v w', S W X v w' → Rl Z W w') (hnd : notDefer op = true)
    (hk : ∀ W X v w', N0 ≤ W.heap.size → St w0 F W (X :: C) → S W X v w' → JXat P f ro n R ops T w0 F Z N0 C0 A σ τ ((i, v) :: D) env0 k ds ((t, v) :: env) w' X) : JX P f ro n R ops T w0 F Z N0 C0 A ((i, 1) :: σ) τ D env0 k ds env C :=
  JX_hard ho hnd (fun W X hN hs => OpG_on rfl hv hb (h W X hN hs)) hS hk
theorem JX_c_off {i t : Nat} {j : Nat} {c b : Bool} (ho : ops[i]? = some ⟨some t, op, ty, pos, af, some (j, c)⟩) (hv : gval ops env j = some b) (hb : b = !c) (hnd : notDefer op = true)
    (hk : JX P f ro n R ops T w0 F Z N0 C0 A σ τ ((i, undef) :: D) env0 k ds ((t, undef) :: env) C) : JX P f ro n R ops T w0 F Z N0 C0 A ((i, 1) :: σ) τ D env0 k ds env C :=
  JX_hard (S := fun W _ => Is undef W) ho hnd (fun W X hN hs => OpG_off rfl hv hb is_rfl) (fun W X v w' ⟨_, e⟩ => by rw [e]; exact Rl.refl _) (fun W X v w' hN hs ⟨e1, e2⟩ => by rw [e1, e2]; exact JX.at hs hk)
theorem JX_split {i : Nat} {o : Option Tmp} {j : Nat} {c b : Bool} {q : Nat} (_ : ops[i]? = some ⟨o, op, ty, pos, af, some (j, c)⟩) (_ : gval ops env j = some b)
    (ht : b = c → JX P f ro n R ops T w0 F Z N0 C0 A ((i, q) :: σ) τ D env0 k ds env C) (hf : b = !c → JX P f ro n R ops T w0 F Z N0 C0 A ((i, q) :: σ) τ D env0 k ds env C) : JX P f ro n R ops T w0 F Z N0 C0 A ((i, q) :: σ) τ D env0 k ds env C := by
  cases b <;> cases c <;> first | exact ht rfl | exact hf rfl
theorem JX_split_dec {i : Nat} {o : Option Tmp} {j : Nat} {c : Bool} {q : Nat} {p : Prop} [Decidable p] (_ : ops[i]? = some ⟨o, op, ty, pos, af, some (j, c)⟩) (_ : gval ops env j = some (decide p))
    (ht : p → JX P f ro n R ops T w0 F Z N0 C0 A ((i, q) :: σ) τ D env0 k ds env C) (hf : ¬ p → JX P f ro n R ops T w0 F Z N0 C0 A ((i, q) :: σ) τ D env0 k ds env C) : JX P f ro n R ops T w0 F Z N0 C0 A ((i, q) :: σ) τ D env0 k ds env C := by
  by_cases hp : p
  · exact ht hp
  · exact hf hp
theorem JX_k {i t : Nat} {obj : Obj} {mk : Nat → Value} {A2 : List AE}
    (hk : ∀ b, JX P f ro n R ops T w0 F Z N0 C0 A2 σ τ ((i, mk b) :: D) env0 k ds ((t, mk b) :: env) (Blk b obj :: C)) : JX P f ro n R ops T w0 F Z N0 C0 (⟨i, t, obj, mk⟩ :: A2) ((i, 3) :: σ) τ D env0 k ds env C :=
  JX_know (A1 := []) rfl rfl hk
theorem JX_k2 {i t : Nat} {obj : Obj} {mk : Nat → Value} {a1 : AE} {A2 : List AE} (h1 : (a1.i == i) = false)
    (hk : ∀ b, JX P f ro n R ops T w0 F Z N0 C0 (a1 :: A2) σ τ ((i, mk b) :: D) env0 k ds ((t, mk b) :: env) (Blk b obj :: C)) : JX P f ro n R ops T w0 F Z N0 C0 (a1 :: ⟨i, t, obj, mk⟩ :: A2) ((i, 3) :: σ) τ D env0 k ds env C :=
  JX_know (A1 := [a1]) rfl (by simp only [List.map_cons, List.map_nil, List.contains_cons, List.contains_nil, Bool.or_false]; rw [← h1]; simp [Bool.beq_comm]) hk
theorem ax_f {i : Nat} (h : JX P f ro n R ops T w0 F Z N0 C0 A ((i, 0) :: σ) τ D env0 k ds env C) : JX P f ro n R ops T w0 F Z N0 C0 A ((i, 0) :: σ) τ D env0 k ds env C := h
theorem ax_c {i : Nat} (h : JX P f ro n R ops T w0 F Z N0 C0 A ((i, 1) :: σ) τ D env0 k ds env C) : JX P f ro n R ops T w0 F Z N0 C0 A ((i, 1) :: σ) τ D env0 k ds env C := h
theorem ax_n {i : Nat} (h : JX P f ro n R ops T w0 F Z N0 C0 A ((i, 2) :: σ) τ D env0 k ds env C) : JX P f ro n R ops T w0 F Z N0 C0 A ((i, 2) :: σ) τ D env0 k ds env C := h
theorem ax_k {i : Nat} (h : JX P f ro n R ops T w0 F Z N0 C0 A ((i, 3) :: σ) τ D env0 k ds env C) : JX P f ro n R ops T w0 F Z N0 C0 A ((i, 3) :: σ) τ D env0 k ds env C := h
end
end
end Go.Eng
