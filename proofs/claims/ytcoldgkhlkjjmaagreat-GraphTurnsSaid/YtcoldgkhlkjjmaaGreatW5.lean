/- The texts G9, G10, G11, G12, E31, G13, G14, G15, G16, G17, joined: what of them serves. -/
import Derived.Test.YtcoldgkhlkjjmaaGreatW4
section
namespace Go.Eng
open Go.Proofs
set_option linter.unusedSimpArgs false
set_option linter.unusedVariables false
theorem vC {l : List Int} {id : Int} {u : List Int} (hl : dF l = true) (hu : dF u = true) (e : u = wiT l id) : gP l id = 0 ∧ fX l id = u := by
  obtain ⟨h1, h2, h3⟩ := typeB_iff.1 hl
  obtain ⟨g1, g2, g3⟩ := typeB_iff.1 hu
  have hi : insT l id = u := by rw [pI h2, e]
  have hm : mayM id = true := g3 id (by rw [e]; exact wiT_mem.2 (.inl rfl))
  have hc : gP l id = 0 := by unfold gP; rw [if_pos hl, if_pos hm, hi, if_neg (by omega)]
  exact ⟨hc, by unfold fX; rw [if_pos hc, hi]⟩
theorem nS {l : List Int} {id : Int} (hl : dF l = true) (hm : id ∈ l) : outC l id = 0 ∧ outL l id = outT l id := by
  have hc : outC l id = 0 := by unfold outC; rw [if_pos hl, if_pos hm]
  exact ⟨hc, by unfold outL; rw [if_pos hc]⟩
theorem zQ {plus : Bool} {l u : List Int} {id : Int} (hl : dF l = true) (hu : dF u = true) (hm : id ∈ l ↔ plus = false) : (zS plus l id = 0 ∧ u = zR plus l id) ↔ u = fZ plus l id := by
  cases plus with
  | true =>
    show (gP l id = 0 ∧ u = fX l id) ↔ u = wiT l id
    constructor
    · rintro ⟨h1, h2⟩
      unfold fX at h2
      rw [if_pos h1, pI (typeB_iff.1 hl).2.1] at h2
      exact h2
    · intro e
      obtain ⟨h1, h2⟩ := vC hl hu e
      exact ⟨h1, h2.symm⟩
  | false =>
    show (outC l id = 0 ∧ u = outL l id) ↔ u = outT l id
    obtain ⟨h1, h2⟩ := nS hl (hm.2 rfl)
    rw [h2]
    exact ⟨fun h => h.2, fun h => ⟨h1, h⟩⟩
theorem eW {N : List NM} {i : Nat} {x : NM} (hx : N[i]? = some x) (ht : dF x.2.1 = true) (hall : ∀ (j : Nat) (y : NM), N[j]? = some y → y.1 = true → dF y.2.1 = true) {row : List ST} {plus : Bool} : fY N ((i : Int) + 1) row plus = true ↔ iZ row ∧ ∀ s ∈ row, lX N i x plus s := by
  rw [xQ]
  have hh : ∀ id, hasT x.2.1 id = decide (id ∈ x.2.1) := fun id => by unfold hasT; rw [ht]; rfl
  constructor
  · intro h
    refine ⟨aAc fun k hk => ?_, fun s hs => ?_⟩
    · have := h k hk
      unfold qD at this
      exact (Bool.and_eq_true _ _ ▸ this : _ ∧ _).1
    · obtain ⟨k, hk⟩ := List.mem_iff_getElem?.1 hs
      have := h k (List.getElem?_eq_some_iff.1 hk).1
      unfold qD at this
      rw [kN hk, cO hx, Bool.and_eq_true, Bool.and_eq_true, Bool.and_eq_true, Bool.and_eq_true, Bool.and_eq_true, decide_eq_true_eq, decide_eq_true_eq, decide_eq_true_eq, hh] at this
      obtain ⟨_, h2, h3, h4, h5, h6⟩ := this
      obtain ⟨j, y, e1, e2, e3⟩ := isM_true.1 h2
      rw [e1, cO e2] at h5 h6
      have hm : s.1 ∈ x.2.1 ↔ plus = false := by by_cases c : s.1 ∈ x.2.1 <;> cases plus <;> simp [c] at h3 ⊢
      exact ⟨hm, j, y, e1, e2, e3, (zQ ht (hall j y e2 e3) hm).1 ⟨h4, h5⟩, h6⟩
  · rintro ⟨h1, h2⟩ k hk
    have hs : row[k]? = some row[k] := List.getElem?_eq_getElem hk
    obtain ⟨h3, j, y, e1, e2, e3, h5, h4⟩ := h2 _ (List.getElem_mem hk)
    obtain ⟨h6, h7⟩ := (zQ ht (hall j y e2 e3) h3).2 h5
    unfold qD
    rw [aAn h1 hk, kN hs, cO hx, isM_true.2 ⟨j, y, e1, e2, e3⟩, e1, cO e2, decide_eq_true h4, decide_eq_true h6, decide_eq_true h7, hh]
    by_cases c : row[k].1 ∈ x.2.1 <;> cases plus <;> simp [c] at h3 ⊢
theorem oZ {α : Type} [DecidableEq α] : ∀ {l1 l2 : List α}, l1.Pairwise (· ≠ ·) → (∀ x ∈ l1, x ∈ l2) → l2.length ≤ l1.length → l1.Perm l2
  | [], l2, _, _, h => by rw [List.eq_nil_of_length_eq_zero (Nat.le_zero.1 h)]
  | x :: l1, l2, hn, hs, h => by
    obtain ⟨h1, h2⟩ := List.pairwise_cons.1 hn
    have hx := hs x List.mem_cons_self
    have hp := List.perm_cons_erase hx
    have hl := List.length_erase_of_mem hx
    have hpos := List.length_pos_of_mem hx
    rw [List.length_cons] at h
    refine (List.Perm.cons x (oZ h2 (fun y hy => ?_) (by omega))).trans hp.symm
    have hy2 := hs y (List.mem_cons_of_mem _ hy)
    rcases List.mem_cons.1 (hp.mem_iff.1 hy2) with e | e
    · exact absurd e.symm (h1 y hy)
    · exact e
theorem lV {N : List NM} (hu : ∀ (i j : Nat) (x y : NM), N[i]? = some x → N[j]? = some y → x.1 = true → y.1 = true → x.2.1 = y.2.1 → i = j) : dN (useE N N.length) := by
  unfold dN useE
  rw [List.pairwise_map]
  refine List.Pairwise.imp_of_mem (fun {a b} ha hb hne e => hne ?_) (uN_nodup N N.length)
  obtain ⟨a1, a2⟩ := mem_uN.1 ha
  obtain ⟨b1, b2⟩ := mem_uN.1 hb
  have hxa : N[a]? = some (N[a]'a1) := List.getElem?_eq_getElem a1
  have hxb : N[b]? = some (N[b]'b1) := List.getElem?_eq_getElem b1
  dsimp only [vR] at e
  rw [cK hxa] at a2 e
  rw [cK hxb] at b2 e
  exact hu a b _ _ hxa hxb a2 b2 e
theorem pair_inj {N : List NM} {E : List Ent} {i j : Nat} {x y : NM} (h1 : kC E x.2.1 = ((i : Int) + 1, true)) (h2 : kC E y.2.1 = ((j : Int) + 1, true)) (e : x.2.1 = y.2.1) : i = j := by
  rw [e, h2] at h1
  have := congrArg Prod.fst h1
  dsimp only at this
  omega
theorem vP {E : List Ent} {t : List Int} {n : Int} (h : kC E t = (n, true)) : cH E = true ∧ ((1, t, n) : Ent) ∈ allM E := by
  unfold kC at h
  by_cases hc : cH E = true
  · rw [if_pos hc] at h
    by_cases hp : eU E t < 0
    · rw [if_pos hp] at h; cases h
    · rw [if_neg hp] at h
      rcases gE E t with h2 | ⟨q, x, hx, hq, h1, h3⟩
      · omega
      · rw [hq, show ((q : Nat) : Int).toNat = q by omega, cW hx] at h
        have e := congrArg Prod.fst h
        dsimp only at e
        refine ⟨hc, (eF E).mem_iff.2 (List.mem_filter.2 ⟨?_, rfl⟩)⟩
        rw [← e, ← h3, ← h1]
        exact List.mem_of_getElem? hx
  · rw [if_neg hc] at h; cases h
theorem qZ {E : List Ent} (hc : cH E = true) {e : Ent} (he : e ∈ allM E) : kC E e.2.1 = (e.2.2, true) := find_mem hc ((eF E).mem_iff.1 he)
theorem check_iff {N : List NM} {E : List Ent} : dP N E = true ↔ GR N ∧ cH E = true ∧ allM E = dZ N := by
  constructor
  · intro h
    unfold dP tX at h
    rw [Bool.and_eq_true, Bool.and_eq_true, Bool.and_eq_true, Bool.and_eq_true, Bool.and_eq_true, Bool.and_eq_true, decide_eq_true_eq, decide_eq_true_eq, decide_eq_true_eq, List.all_eq_true] at h
    obtain ⟨⟨h0, hl, hf, h3, hcE⟩, h4, h5⟩ := h
    obtain ⟨j, xl, ej, hxl, hul⟩ := isM_true.1 hl
    obtain ⟨j0, x0, ej0, hx0, hu0⟩ := isM_true.1 hf
    have ej' : j = N.length - 1 := by omega
    have ej0' : j0 = 0 := by omega
    subst ej' ej0'
    have e1 : cZ N 1 = x0 := cO (k := 0) hx0
    rw [e1] at h3
    have key : ∀ (i : Nat) (x : NM), N[i]? = some x → oA N E i = true := fun i x hx => h4 i (List.mem_range.2 (List.getElem?_eq_some_iff.1 hx).1)
    have yes : ∀ (i : Nat) (x : NM), N[i]? = some x → x.1 = true → dF x.2.1 = true ∧ kC E x.2.1 = ((i : Int) + 1, true) ∧ fY N ((i : Int) + 1) x.2.2.1 true = true ∧ fY N ((i : Int) + 1) x.2.2.2 false = true := by
      intro i x hx hu
      have := key i x hx
      unfold oA at this
      rw [cK hx, if_pos hu, Bool.and_eq_true, Bool.and_eq_true, Bool.and_eq_true, decide_eq_true_eq] at this
      exact this
    have no : ∀ (i : Nat) (x : NM), N[i]? = some x → x.1 = false → x = n0 := by
      intro i x hx hu
      have := key i x hx
      unfold oA at this
      rw [cK hx, if_neg (by rw [hu]; decide), decide_eq_true_eq] at this
      obtain ⟨a, b, c, d⟩ := x
      dsimp only at this hu
      rw [List.eq_nil_of_length_eq_zero (show b.length = 0 by omega), List.eq_nil_of_length_eq_zero (show c.length = 0 by omega), List.eq_nil_of_length_eq_zero (show d.length = 0 by omega), hu]
    have hall : ∀ (j : Nat) (y : NM), N[j]? = some y → y.1 = true → dF y.2.1 = true := fun j y hy hu => (yes j y hy hu).1
    have huq : ∀ (i j : Nat) (x y : NM), N[i]? = some x → N[j]? = some y → x.1 = true → y.1 = true → x.2.1 = y.2.1 → i = j := fun i j x y hx hy hu hv e => pair_inj (N := N) (yes i x hx hu).2.1 (yes j y hy hv).2.1 e
    have hE : allF E = allM E := uU hcE
    have hdist := lV huq
    have hsub : ∀ e ∈ useE N N.length, e ∈ allM E := fun e he => by
      obtain ⟨j, x, hx, hu, rfl⟩ := ents_mem.1 ((jF N).mem_iff.2 he)
      exact (vP (yes j x hx hu).2.1).2
    have hlen : (allM E).length ≤ (useE N N.length).length := by
      have : (useE N N.length).length = dX N := by unfold useE; rw [List.length_map, wR]
      rw [this, h5, hE]
      exact Nat.le_refl _
    have hperm : (useE N N.length).Perm (allM E) := oZ (hdist.imp fun h e => h (congrArg (fun x => x.2.1) e)) hsub hlen
    refine ⟨⟨⟨xl, hxl, hul⟩, ⟨x0, hx0, hu0, List.eq_nil_of_length_eq_zero h3⟩, hall, huq, no, fun i x hx => ?_, fun i x hx s hs => ?_, fun i x hx s hs => ?_, by rw [h5]; exact allF_le E⟩, hcE, (kY (dR hcE) ((jF N).trans (hperm.trans (eF E))) (iR N)).symm⟩
    · cases hu : x.1 with
      | true => exact ⟨((eW hx (hall i x hx hu) hall).1 (yes i x hx hu).2.2.1).1, ((eW hx (hall i x hx hu) hall).1 (yes i x hx hu).2.2.2).1⟩
      | false => rw [no i x hx hu]; exact ⟨List.Pairwise.nil, List.Pairwise.nil⟩
    · cases hu : x.1 with
      | true => exact ((eW hx (hall i x hx hu) hall).1 (yes i x hx hu).2.2.1).2 s hs
      | false => rw [no i x hx hu] at hs; cases hs
    · cases hu : x.1 with
      | true => exact ((eW hx (hall i x hx hu) hall).1 (yes i x hx hu).2.2.2).2 s hs
      | false => rw [no i x hx hu] at hs; cases hs
  · rintro ⟨g, hcE, hA⟩
    obtain ⟨x0, hx0, hu0, ht0⟩ := g.first
    obtain ⟨xl, hxl, hul⟩ := g.last
    have hl0 := (List.getElem?_eq_some_iff.1 hx0).1
    have e1 : cZ N 1 = x0 := cO (k := 0) hx0
    unfold dP tX
    rw [e1, ht0, hcE, (isM_true.2 ⟨0, x0, rfl, hx0, hu0⟩ : isM N 1 = true), (isM_true.2 ⟨N.length - 1, xl, by omega, hxl, hul⟩ : isM N N.length = true), decide_eq_true (show N.length ≠ 0 by omega), uU hcE, hA, fV, decide_eq_true (rfl : dX N = dX N)]
    rw [show (List.range N.length).all (oA N E) = true from List.all_eq_true.2 fun i hi => ?_]
    · rfl
    · have hi := List.mem_range.1 hi
      have hx : N[i]? = some N[i] := List.getElem?_eq_getElem hi
      unfold oA
      rw [cK hx]
      cases hu : N[i].1 with
      | true =>
        have hm : ((1, N[i].2.1, (i : Int) + 1) : Ent) ∈ allM E := by rw [hA]; exact ents_mem.2 ⟨i, _, hx, hu, rfl⟩
        rw [if_pos rfl, g.typ i _ hx hu, qZ hcE hm, (eW hx (g.typ i _ hx hu) g.typ).2 ⟨(g.rise i _ hx).1, g.plus i _ hx⟩, (eW hx (g.typ i _ hx hu) g.typ).2 ⟨(g.rise i _ hx).2, g.less i _ hx⟩]
        simp
      | false =>
        rw [if_neg (by decide), g.un i _ hx hu]
        rfl
theorem vI (N : List NM) (E : List Ent) : wM N E = dP N E := by
  rw [Bool.eq_iff_iff, check_iff]
  unfold wM
  rw [Bool.and_eq_true, Bool.and_eq_true, decide_eq_true_eq, nodes_iff]
theorem qY {N : List NM} {E : List Ent} (h : dP N E = true) (t : List Int) : kC E t = ((eX N t : Int), decide (eX N t ≠ 0)) := by
  obtain ⟨g, hcE, hA⟩ := check_iff.1 h
  by_cases c : eX N t = 0
  · rw [aBb (es := E) (t := t) (fun y hy e => ?_), c, decide_eq_false (by omega)]; rfl
    have hy2 : y ∈ dZ N := hA ▸ (eF E).mem_iff.2 hy
    obtain ⟨j, x, hx, hu, rfl⟩ := ents_mem.1 hy2
    exact findN_none.1 c j x hx hu e
  · obtain ⟨j, x, hx, hu, rfl, hj, _⟩ := uA c
    have hm : ((1, x.2.1, (j : Int) + 1) : Ent) ∈ allM E := by rw [hA]; exact ents_mem.2 ⟨j, _, hx, hu, rfl⟩
    rw [qZ hcE hm, hj, decide_eq_true (by omega)]
    rfl
end Go.Eng
end
section
namespace Go.Eng
open Go.Proofs
set_option linter.unusedSimpArgs false
set_option linter.unusedVariables false
theorem lE {α : Type} [DecidableEq α] : ∀ {l1 l2 : List α}, l1.Pairwise (· ≠ ·) → l2.Pairwise (· ≠ ·) → (∀ x, x ∈ l1 ↔ x ∈ l2) → l1.Perm l2
  | [], l2, _, _, h => by
    cases l2 with
    | nil => exact .nil
    | cons y l => exact absurd ((h y).2 List.mem_cons_self) (by simp)
  | x :: l1, l2, h1, h2, h => by
    obtain ⟨a1, a2⟩ := List.pairwise_cons.1 h1
    have hx := (h x).1 List.mem_cons_self
    have hp := List.perm_cons_erase hx
    have h3 : (x :: l2.erase x).Pairwise (· ≠ ·) := (hp.pairwise_iff (fun h => Ne.symm h)).1 h2
    obtain ⟨b1, b2⟩ := List.pairwise_cons.1 h3
    refine (List.Perm.cons x (lE a2 b2 fun y => ?_)).trans hp.symm
    constructor
    · intro hy
      rcases List.mem_cons.1 (hp.mem_iff.1 ((h y).1 (List.mem_cons_of_mem _ hy))) with e | e
      · exact absurd e.symm (a1 y hy)
      · exact e
    · intro hy
      rcases List.mem_cons.1 ((h y).2 (hp.mem_iff.2 (List.mem_cons_of_mem _ hy))) with e | e
      · exact absurd e.symm (b1 y hy)
      · exact e
abbrev lK (N : List NM) : Prop := ∀ (i j : Nat) (x y : NM), N[i]? = some x → N[j]? = some y → x.1 = true → y.1 = true → x.2.1 = y.2.1 → i = j
theorem eA {l : List Ent} (h : dN l) : l.Pairwise (· ≠ ·) := h.imp fun h e => h (congrArg (fun x => x.2.1) e)
theorem dJ {N : List NM} (hu : lK N) : dN (dZ N) := ((jF N).pairwise_iff (fun h => Ne.symm h)).2 (lV hu)
theorem aB3 {N : List NM} {E : List Ent} (hc : cH E = true) (hu : lK N) (h : ∀ e, e ∈ E.filter dI ↔ e ∈ dZ N) : allM E = dZ N :=
  (kY (dR hc) (lE (eA (dJ hu)) (eA (dR hc)) (fun e => (h e).symm)) (iR N)).symm
def eH (N : List NM) : Nat := N.findIdx (fun x => !x.1)
theorem fU (N : List NM) : eH N ≤ N.length := List.findIdx_le_length
theorem freeN_lo {N : List NM} {i : Nat} {x : NM} (hx : N[i]? = some x) (h : i < eH N) : x.1 = true := by
  have h1 := List.not_of_lt_findIdx h
  rw [(List.getElem?_eq_some_iff.1 hx).2] at h1
  simpa using h1
theorem sK {N : List NM} {x : NM} (hx : N[eH N]? = some x) : x.1 = false := by
  have hl := (List.getElem?_eq_some_iff.1 hx).1
  have h1 := List.findIdx_getElem (xs := N) (p := fun (x : NM) => !x.1) (w := hl)
  have h2 : N[N.findIdx (fun (x : NM) => !x.1)]'hl = x := (List.getElem?_eq_some_iff.1 hx).2
  rw [h2] at h1
  simpa using h1
theorem qU {N : List NM} {k : Nat} (hk : k ≤ N.length) (h1 : ∀ (i : Nat) (x : NM), N[i]? = some x → i < k → x.1 = true) (h2 : ∀ x, N[k]? = some x → x.1 = false) : eH N = k := by
  rcases Nat.lt_trichotomy (eH N) k with h | h | h
  · have hx : N[eH N]? = some (N[eH N]'(by omega)) := List.getElem?_eq_getElem (by omega)
    have a := h1 _ _ hx h
    rw [sK hx] at a; cases a
  · exact h
  · have := fU N
    have hx : N[k]? = some (N[k]'(by omega)) := List.getElem?_eq_getElem (by omega)
    have a := freeN_lo hx h
    rw [h2 _ hx] at a; cases a
def setN (N : List NM) (p : Nat) (x : NM) : List NM := if p < N.length then N.set p x else N ++ [x]
theorem iM {N : List NM} {p : Nat} (hp : p ≤ N.length) (x : NM) (i : Nat) : (setN N p x)[i]? = if i = p then some x else N[i]? := by
  unfold setN
  by_cases h : p < N.length
  · rw [if_pos h]
    by_cases e : i = p
    · subst e; rw [if_pos rfl, List.getElem?_set_self h]
    · rw [if_neg e, List.getElem?_set_ne (by omega)]
  · rw [if_neg h]
    by_cases e : i = p
    · subst e; rw [if_pos rfl, List.getElem?_append_right (by omega), show i - N.length = 0 by omega]; rfl
    · rw [if_neg e]
      by_cases c : i < N.length
      · rw [List.getElem?_append_left c]
      · rw [List.getElem?_eq_none (by rw [List.length_append, List.length_singleton]; omega), List.getElem?_eq_none (by omega)]
theorem wK {N : List NM} {p : Nat} (hp : p ≤ N.length) (x : NM) : (setN N p x).length = if p < N.length then N.length else p + 1 := by
  unfold setN
  by_cases h : p < N.length
  · rw [if_pos h, if_pos h, List.length_set]
  · rw [if_neg h, if_neg h, List.length_append, List.length_singleton]; omega
abbrev newN (t : List Int) : NM := (true, t, [], [])
theorem free_pos {N : List NM} (g : GR N) : 1 ≤ eH N := by
  obtain ⟨x, hx, hu, _⟩ := g.first
  refine Decidable.by_contra fun h => ?_
  have e : eH N = 0 := by omega
  have := sK (N := N) (x := x) (by rw [e]; exact hx)
  rw [hu] at this; cases this
theorem mE {N : List NM} {t : List Int} {j : Nat} {y : NM} (hy : N[j]? = some y) (hu : y.1 = true) : (setN N (eH N) (newN t))[j]? = some y := by
  rw [iM (fU N), if_neg]
  · exact hy
  · rintro rfl
    rw [sK hy] at hu; cases hu
theorem rW {N : List NM} {t : List Int} (hu : lK N) (hf : eX N t = 0) : lK (setN N (eH N) (newN t)) := by
  intro i j x y hx hy h1 h2 e
  rw [iM (fU N)] at hx hy
  by_cases ei : i = eH N
  · rw [if_pos ei] at hx
    cases hx
    by_cases ej : j = eH N
    · omega
    · rw [if_neg ej] at hy
      exact absurd e.symm (findN_none.1 hf j y hy h2)
  · rw [if_neg ei] at hx
    by_cases ej : j = eH N
    · rw [if_pos ej] at hy
      cases hy
      exact absurd e (findN_none.1 hf i x hx h1)
    · rw [if_neg ej] at hy
      exact hu i j x y hx hy h1 h2 e
theorem wJ {N : List NM} {t : List Int} (e : Ent) : e ∈ dZ (setN N (eH N) (newN t)) ↔ e ∈ dZ N ∨ e = (1, t, (eH N : Int) + 1) := by
  rw [ents_mem, ents_mem]
  constructor
  · rintro ⟨j, x, hx, h1, rfl⟩
    rw [iM (fU N)] at hx
    by_cases ej : j = eH N
    · rw [if_pos ej] at hx
      cases hx
      rw [ej]; exact .inr rfl
    · rw [if_neg ej] at hx
      exact .inl ⟨j, x, hx, h1, rfl⟩
  · rintro (⟨j, x, hx, h1, rfl⟩ | rfl)
    · exact ⟨j, x, mE hx h1, h1, rfl⟩
    · exact ⟨eH N, newN t, by rw [iM (fU N), if_pos rfl], rfl, rfl⟩
theorem set_many {N : List NM} {t : List Int} (hu : lK N) (hf : eX N t = 0) : dX (setN N (eH N) (newN t)) = dX N + 1 := by
  rw [← fV, ← fV]
  have hn : ((1, t, (eH N : Int) + 1) : Ent) ∉ dZ N := fun h => by
    obtain ⟨j, x, hx, h1, e⟩ := ents_mem.1 h
    exact findN_none.1 hf j x hx h1 (congrArg (fun x => x.2.1) e).symm
  have hp : (dZ (setN N (eH N) (newN t))).Perm ((1, t, (eH N : Int) + 1) :: dZ N) := by
    refine lE (eA (dJ (rW hu hf))) (List.pairwise_cons.2 ⟨fun y hy e => hn (e ▸ hy), eA (dJ hu)⟩) fun x => ?_
    rw [wJ, List.mem_cons]
    exact Or.comm
  rw [hp.length_eq, List.length_cons]
theorem set_GR {N : List NM} {t : List Int} (g : GR N) (ht : dF t = true) (hf : eX N t = 0) (hm : dX N ≠ 4000) : GR (setN N (eH N) (newN t)) := by
  have h1 := free_pos g
  have hle := fU N
  have hget := fun i => iM hle (newN t) i
  have hst : ∀ (i : Nat) (x : NM) (plus : Bool) (s : ST), lX N i x plus s → lX (setN N (eH N) (newN t)) i x plus s := by
    rintro i x plus s ⟨a, j, y, b, c, d, e, f⟩
    exact ⟨a, j, y, b, mE c d, d, e, f⟩
  refine ⟨?_, ?_, fun i x hx hu => ?_, rW g.uniq hf, fun i x hx hu => ?_, fun i x hx => ?_, fun i x hx s hs => ?_, fun i x hx s hs => ?_, by have := g.many; rw [set_many g.uniq hf]; omega⟩
  · obtain ⟨x, hx, hu⟩ := g.last
    have hl := (List.getElem?_eq_some_iff.1 hx).1
    rw [wK hle]
    by_cases c : eH N < N.length
    · rw [if_pos c]; exact ⟨x, mE hx hu, hu⟩
    · rw [if_neg c, Nat.add_sub_cancel, hget, if_pos rfl]; exact ⟨_, rfl, rfl⟩
  · obtain ⟨x, hx, hu, ht⟩ := g.first
    exact ⟨x, mE hx hu, hu, ht⟩
  · rw [hget] at hx
    by_cases e : i = eH N
    · rw [if_pos e] at hx; cases hx; exact ht
    · rw [if_neg e] at hx; exact g.typ i x hx hu
  · rw [hget] at hx
    by_cases e : i = eH N
    · rw [if_pos e] at hx; cases hx; cases hu
    · rw [if_neg e] at hx; exact g.un i x hx hu
  · rw [hget] at hx
    by_cases e : i = eH N
    · rw [if_pos e] at hx; cases hx; exact ⟨List.Pairwise.nil, List.Pairwise.nil⟩
    · rw [if_neg e] at hx; exact g.rise i x hx
  · rw [hget] at hx
    by_cases e : i = eH N
    · rw [if_pos e] at hx; cases hx; cases hs
    · rw [if_neg e] at hx; exact hst _ _ _ _ (g.plus i x hx s hs)
  · rw [hget] at hx
    by_cases e : i = eH N
    · rw [if_pos e] at hx; cases hx; cases hs
    · rw [if_neg e] at hx; exact hst _ _ _ _ (g.less i x hx s hs)
def ofC (N : List NM) (t : List Int) : Int := if dF t then (if eX N t ≠ 0 then 0 else if dX N = 4000 then 6 else 0) else 130
def ofL (N : List NM) (t : List Int) : List NM := if ofC N t = 0 then (if eX N t ≠ 0 then N else setN N (eH N) (newN t)) else []
def ofn (N : List NM) (t : List Int) : Nat := if ofC N t = 0 then (if eX N t ≠ 0 then eX N t else eH N + 1) else 0
theorem of_cases {N : List NM} {t : List Int} (h : ofC N t = 0) : dF t = true ∧ ((eX N t ≠ 0 ∧ ofL N t = N ∧ ofn N t = eX N t) ∨ (eX N t = 0 ∧ dX N ≠ 4000 ∧ ofL N t = setN N (eH N) (newN t) ∧ ofn N t = eH N + 1)) := by
  have ht : dF t = true := by
    cases c : dF t with
    | true => rfl
    | false => unfold ofC at h; rw [c, if_neg (by decide)] at h; exact absurd h (by decide)
  refine ⟨ht, ?_⟩
  by_cases c : eX N t = 0
  · refine .inr ⟨c, fun e => ?_, ?_, ?_⟩
    · unfold ofC at h; rw [if_pos ht, if_neg (fun h => h c), if_pos e] at h; exact absurd h (by decide)
    · unfold ofL; rw [if_pos h, if_neg (fun h => h c)]
    · unfold ofn; rw [if_pos h, if_neg (fun h => h c)]
  · refine .inl ⟨c, ?_, ?_⟩
    · unfold ofL; rw [if_pos h, if_pos c]
    · unfold ofn; rw [if_pos h, if_pos c]
theorem of_GR {N : List NM} {t : List Int} (g : GR N) (h : ofC N t = 0) : GR (ofL N t) ∧ (∃ x, (ofL N t)[ofn N t - 1]? = some x ∧ x.1 = true ∧ x.2.1 = t) ∧ 1 ≤ ofn N t ∧ ∀ (i : Nat) (x : NM), N[i]? = some x → x.1 = true → (ofL N t)[i]? = some x := by
  obtain ⟨ht, ⟨c, e1, e2⟩ | ⟨c, hm, e1, e2⟩⟩ := of_cases h
  · obtain ⟨j, x, hx, hu, hxt, hj, _⟩ := uA c
    rw [e1, e2, hj]
    exact ⟨g, ⟨x, hx, hu, hxt⟩, by omega, fun i x hx _ => hx⟩
  · rw [e1, e2, Nat.add_sub_cancel]
    exact ⟨set_GR g ht c hm, ⟨_, by rw [iM (fU N), if_pos rfl], rfl, rfl⟩, by omega, fun i x hx hu => mE hx hu⟩
end Go.Eng
end
section
namespace Go.Eng
open Go.Proofs
set_option linter.unusedSimpArgs false
set_option linter.unusedVariables false
def wiS (l : List ST) (s : ST) : List ST := l.filter (fun x => decide (x.1 < s.1)) ++ s :: l.filter (fun x => decide (s.1 < x.1))
theorem wiS_mem {l : List ST} {s x : ST} : x ∈ wiS l s ↔ x = s ∨ (x ∈ l ∧ x.1 ≠ s.1) := by
  unfold wiS
  rw [List.mem_append, List.mem_cons, List.mem_filter, List.mem_filter, decide_eq_true_eq, decide_eq_true_eq]
  constructor
  · rintro (h | h | h)
    · exact .inr ⟨h.1, by omega⟩
    · exact .inl h
    · exact .inr ⟨h.1, by omega⟩
  · rintro (h | ⟨h, e⟩)
    · exact .inr (.inl h)
    · rcases Int.lt_trichotomy x.1 s.1 with a | a | a
      · exact .inl ⟨h, a⟩
      · exact absurd a e
      · exact .inr (.inr ⟨h, a⟩)
theorem rK {l : List ST} {s : ST} (h : iZ l) : iZ (wiS l s) := by
  unfold wiS iZ
  rw [List.pairwise_append, List.pairwise_cons]
  refine ⟨h.sublist List.filter_sublist, ⟨fun x hx => of_decide_eq_true (List.mem_filter.1 hx).2, h.sublist List.filter_sublist⟩, fun x hx y hy => ?_⟩
  have h1 : x.1 < s.1 := of_decide_eq_true (List.mem_filter.1 hx).2
  rcases List.mem_cons.1 hy with e | e
  · rw [e]; exact h1
  · have h2 : s.1 < y.1 := of_decide_eq_true (List.mem_filter.1 e).2
    omega
theorem qM : ∀ {l1 l2 : List ST}, iZ l1 → iZ l2 → (∀ x, x ∈ l1 ↔ x ∈ l2) → l1 = l2
  | [], [], _, _, _ => rfl
  | [], y :: ys, _, _, h => absurd ((h y).2 List.mem_cons_self) (by simp)
  | x :: xs, [], _, _, h => absurd ((h x).1 List.mem_cons_self) (by simp)
  | x :: xs, y :: ys, h1, h2, h => by
    rw [iZ, List.pairwise_cons] at h1 h2
    have e : x = y := by
      rcases List.mem_cons.1 ((h x).1 List.mem_cons_self) with e | e
      · exact e
      · rcases List.mem_cons.1 ((h y).2 List.mem_cons_self) with e2 | e2
        · exact e2.symm
        · have a1 := h2.1 x e
          have a2 := h1.1 y e2
          omega
    subst e
    congr 1
    refine qM h1.2 h2.2 fun z => ?_
    constructor
    · intro hz
      rcases List.mem_cons.1 ((h z).1 (List.mem_cons_of_mem _ hz)) with e | e
      · have := h1.1 z hz; rw [e] at this; omega
      · exact e
    · intro hz
      rcases List.mem_cons.1 ((h z).2 (List.mem_cons_of_mem _ hz)) with e | e
      · have := h2.1 z hz; rw [e] at this; omega
      · exact e
theorem aAd {l : List ST} (h : iZ l) {x y : ST} (hx : x ∈ l) (hy : y ∈ l) (e : x.1 = y.1) : x = y := by
  obtain ⟨i, hi⟩ := List.mem_iff_getElem?.1 hx
  obtain ⟨j, hj⟩ := List.mem_iff_getElem?.1 hy
  obtain ⟨hil, hi2⟩ := List.getElem?_eq_some_iff.1 hi
  obtain ⟨hjl, hj2⟩ := List.getElem?_eq_some_iff.1 hj
  rcases Nat.lt_trichotomy i j with c | c | c
  · have := List.pairwise_iff_getElem.1 h i j hil hjl c
    rw [hi2, hj2] at this; omega
  · subst c; rw [hi] at hj; exact Option.some.inj hj
  · have := List.pairwise_iff_getElem.1 h j i hjl hil c
    rw [hi2, hj2] at this; omega
theorem wiS_self {l : List ST} {s : ST} (h : iZ l) (hm : s ∈ l) : wiS l s = l := qM (rK h) h fun x => by
  rw [wiS_mem]
  constructor
  · rintro (e | e)
    · rw [e]; exact hm
    · exact e.1
  · intro hx
    by_cases e : x.1 = s.1
    · exact .inl (aAd h hx hm e)
    · exact .inr ⟨hx, e⟩
def fF (N : List NM) (lo hi : Nat) (id : Int) : List NM :=
  (N.set hi ((N.getD hi n0).1, (N.getD hi n0).2.1, (N.getD hi n0).2.2.1, wiS (N.getD hi n0).2.2.2 (id, (lo : Int) + 1))).set lo
    ((N.getD lo n0).1, (N.getD lo n0).2.1, wiS (N.getD lo n0).2.2.1 (id, (hi : Int) + 1), (N.getD lo n0).2.2.2)
theorem pE (N : List NM) (lo hi : Nat) (id : Int) : (fF N lo hi id).length = N.length := by unfold fF; rw [List.length_set, List.length_set]
theorem pF {N : List NM} {lo hi : Nat} {id : Int} {a b : NM} (ha : N[hi]? = some a) (hb : N[lo]? = some b) (hne : lo ≠ hi) (i : Nat) :
    (fF N lo hi id)[i]? = if i = lo then some (b.1, b.2.1, wiS b.2.2.1 (id, (hi : Int) + 1), b.2.2.2) else if i = hi then some (a.1, a.2.1, a.2.2.1, wiS a.2.2.2 (id, (lo : Int) + 1)) else N[i]? := by
  have h1 := (List.getElem?_eq_some_iff.1 ha).1
  have h2 := (List.getElem?_eq_some_iff.1 hb).1
  unfold fF
  rw [cK ha, cK hb]
  by_cases e : i = lo
  · rw [if_pos e, e, List.getElem?_set_self (by rw [List.length_set]; exact h2)]
  · rw [if_neg e, List.getElem?_set_ne (by omega)]
    by_cases e2 : i = hi
    · rw [if_pos e2, e2, List.getElem?_set_self h1]
    · rw [if_neg e2, List.getElem?_set_ne (by omega)]
section
variable {N : List NM} {lo hi : Nat} {id : Int} {a b : NM}
theorem oF (ha : N[hi]? = some a) (hb : N[lo]? = some b) (hne : lo ≠ hi) {i : Nat} {x' : NM} (hx : (fF N lo hi id)[i]? = some x') :
    ∃ x, N[i]? = some x ∧ x'.1 = x.1 ∧ x'.2.1 = x.2.1 ∧ (x'.2.2.1 = x.2.2.1 ∨ (i = lo ∧ x = b ∧ x'.2.2.1 = wiS x.2.2.1 (id, (hi : Int) + 1))) ∧ (x'.2.2.2 = x.2.2.2 ∨ (i = hi ∧ x = a ∧ x'.2.2.2 = wiS x.2.2.2 (id, (lo : Int) + 1))) := by
  rw [pF ha hb hne] at hx
  by_cases e : i = lo
  · rw [if_pos e] at hx; cases hx; exact ⟨b, by rw [e]; exact hb, rfl, rfl, .inr ⟨e, rfl, rfl⟩, .inl rfl⟩
  · rw [if_neg e] at hx
    by_cases e2 : i = hi
    · rw [if_pos e2] at hx; cases hx; exact ⟨a, by rw [e2]; exact ha, rfl, rfl, .inl rfl, .inr ⟨e2, rfl, rfl⟩⟩
    · rw [if_neg e2] at hx; exact ⟨x', hx, rfl, rfl, .inl rfl, .inl rfl⟩
theorem link_new (g : GR N) (ha : N[hi]? = some a) (hb : N[lo]? = some b) (hua : a.1 = true) (hub : b.1 = true) (ht : a.2.1 = wiT b.2.1 id) (hn : id ∉ b.2.1) (hne : lo ≠ hi) {i : Nat} {x : NM} (hx : N[i]? = some x) :
    ∃ x', (fF N lo hi id)[i]? = some x' ∧ x'.1 = x.1 ∧ x'.2.1 = x.2.1 ∧ (∀ s ∈ x.2.2.1, s ∈ x'.2.2.1) ∧ (∀ s ∈ x.2.2.2, s ∈ x'.2.2.2) ∧ (i = lo → (id, (hi : Int) + 1) ∈ x'.2.2.1) ∧ (i = hi → (id, (lo : Int) + 1) ∈ x'.2.2.2) := by
  have hbt := (typeB_iff.1 (g.typ lo b hb hub)).2.1
  rw [pF ha hb hne]
  by_cases e : i = lo
  · have hxb : x = b := by rw [e, hb] at hx; exact (Option.some.inj hx).symm
    rw [if_pos e]
    refine ⟨_, rfl, by rw [hxb], by rw [hxb], fun s hs => ?_, fun s hs => by rw [hxb] at hs; exact hs, fun _ => wiS_mem.2 (.inl rfl), fun e2 => absurd (e ▸ e2) hne⟩
    rw [hxb] at hs
    refine wiS_mem.2 ?_
    by_cases c : s.1 = id
    · refine .inl ?_
      obtain ⟨_, j, y, e1, e2, e3, e4, _⟩ := g.plus lo b hb s hs
      have e4 : y.2.1 = wiT b.2.1 s.1 := e4
      have : j = hi := g.uniq j hi y a e2 ha e3 hua (by rw [e4, c, ht])
      rw [this] at e1
      exact Prod.ext c e1
    · exact .inr ⟨hs, c⟩
  · rw [if_neg e]
    by_cases e2 : i = hi
    · have hxa : x = a := by rw [e2, ha] at hx; exact (Option.some.inj hx).symm
      rw [if_pos e2]
      refine ⟨_, rfl, by rw [hxa], by rw [hxa], fun s hs => by rw [hxa] at hs; exact hs, fun s hs => ?_, fun h => absurd h e, fun _ => wiS_mem.2 (.inl rfl)⟩
      rw [hxa] at hs
      refine wiS_mem.2 ?_
      by_cases c : s.1 = id
      · refine .inl ?_
        obtain ⟨_, j, y, e1, e2, e3, e4, _⟩ := g.less hi a ha s hs
        have e4 : y.2.1 = outT a.2.1 s.1 := e4
        have hty := (typeB_iff.1 (g.typ j y e2 e3)).2.1
        have : j = lo := g.uniq j lo y b e2 hb e3 hub (by
          refine gU hty hbt fun z => ?_
          rw [e4, c, ht, outT_mem, wiT_mem]
          constructor
          · rintro ⟨h1 | h1, h2⟩
            · exact absurd h1 h2
            · exact h1
          · intro h
            exact ⟨.inr h, fun h2 => hn (h2 ▸ h)⟩)
        rw [this] at e1
        exact Prod.ext c e1
      · exact .inr ⟨hs, c⟩
    · rw [if_neg e2]
      exact ⟨x, hx, rfl, rfl, fun s hs => hs, fun s hs => hs, fun h => absurd h e, fun h => absurd h e2⟩
theorem out_wi {l : List Int} {id : Int} (h : iJ l) (hn : id ∉ l) : outT (wiT l id) id = l := gU (pA (rJ h)) h fun z => by
  rw [outT_mem, wiT_mem]
  constructor
  · rintro ⟨h1 | h1, h2⟩
    · exact absurd h1 h2
    · exact h1
  · intro h
    exact ⟨.inr h, fun h2 => hn (h2 ▸ h)⟩
theorem wi_out {l : List Int} {id : Int} (h : iJ l) (hm : id ∈ l) : wiT (outT l id) id = l := gU (rJ (pA h)) h fun z => by
  rw [wiT_mem, outT_mem]
  constructor
  · rintro (h1 | h1)
    · rw [h1]; exact hm
    · exact h1.1
  · intro h
    by_cases c : z = id
    · exact .inl c
    · exact .inr ⟨h, c⟩
theorem tU (ha : N[hi]? = some a) (hb : N[lo]? = some b) (hne : lo ≠ hi) (e : Ent) : e ∈ dZ (fF N lo hi id) ↔ e ∈ dZ N := by
  rw [ents_mem, ents_mem]
  constructor
  · rintro ⟨j, x', hx, hu, rfl⟩
    obtain ⟨x, h1, h2, h3, _⟩ := oF ha hb hne hx
    exact ⟨j, x, h1, by rw [← h2]; exact hu, by rw [h3]⟩
  · rintro ⟨j, x, hx, hu, rfl⟩
    have : ∃ x', (if j = lo then some (b.1, b.2.1, wiS b.2.2.1 (id, (hi : Int) + 1), b.2.2.2) else if j = hi then some (a.1, a.2.1, a.2.2.1, wiS a.2.2.2 (id, (lo : Int) + 1)) else N[j]?) = some x' ∧ x'.1 = x.1 ∧ x'.2.1 = x.2.1 := by
      by_cases e : j = lo
      · rw [if_pos e]
        have hxb : x = b := by rw [e, hb] at hx; exact (Option.some.inj hx).symm
        exact ⟨_, rfl, by rw [hxb], by rw [hxb]⟩
      · rw [if_neg e]
        by_cases e2 : j = hi
        · rw [if_pos e2]
          have hxa : x = a := by rw [e2, ha] at hx; exact (Option.some.inj hx).symm
          exact ⟨_, rfl, by rw [hxa], by rw [hxa]⟩
        · rw [if_neg e2]; exact ⟨x, hx, rfl, rfl⟩
    obtain ⟨x', h1, h2, h3⟩ := this
    refine ⟨j, x', ?_, by rw [h2]; exact hu, by rw [h3]⟩
    rw [pF ha hb hne]; exact h1
theorem aAq (hu : lK N) (ha : N[hi]? = some a) (hb : N[lo]? = some b) (hne : lo ≠ hi) : lK (fF N lo hi id) := by
  intro i j x' y' hx hy h1 h2 e
  obtain ⟨x, a1, a2, a3, _⟩ := oF ha hb hne hx
  obtain ⟨y, b1, b2, b3, _⟩ := oF ha hb hne hy
  exact hu i j x y a1 b1 (by rw [← a2]; exact h1) (by rw [← b2]; exact h2) (by rw [← a3, ← b3]; exact e)
theorem zZ {N N' : List NM} (h1 : lK N) (h2 : lK N') (h : ∀ e, e ∈ dZ N' ↔ e ∈ dZ N) : dX N' = dX N := by
  rw [← fV, ← fV]
  exact (lE (eA (dJ h2)) (eA (dJ h1)) h).length_eq
theorem aAa {N N' : List NM} (h1 : lK N) (h2 : lK N') (h : ∀ e, e ∈ dZ N' ↔ e ∈ dZ N) : dZ N' = dZ N :=
  nQ (lE (eA (dJ h2)) (eA (dJ h1)) h) (dJ h2) (iR _) (iR _)
theorem link_GR (g : GR N) (ha : N[hi]? = some a) (hb : N[lo]? = some b) (hua : a.1 = true) (hub : b.1 = true) (ht : a.2.1 = wiT b.2.1 id) (hn : id ∉ b.2.1) : lo ≠ hi ∧ GR (fF N lo hi id) ∧ dZ (fF N lo hi id) = dZ N := by
  have hne : lo ≠ hi := fun e => by
    rw [e, ha] at hb
    cases hb
    exact hn (by rw [ht]; exact wiT_mem.2 (.inl rfl))
  have huq : lK (fF N lo hi id) := aAq g.uniq ha hb hne
  have hnew := fun {i : Nat} {x : NM} (hx : N[i]? = some x) => link_new g ha hb hua hub ht hn hne hx
  have hold := fun {i : Nat} {x : NM} (hx : (fF N lo hi id)[i]? = some x) => oF ha hb hne hx
  have hbt := (typeB_iff.1 (g.typ lo b hb hub)).2.1
  have hst : ∀ (i : Nat) (x x' : NM) (plus : Bool) (s : ST), x'.2.1 = x.2.1 → lX N i x plus s → lX (fF N lo hi id) i x' plus s := by
    rintro i x x' plus s e0 ⟨q, j, y, e1, e2, e3, e4, e5⟩
    obtain ⟨y', f1, f2, f3, f4, f5, _⟩ := hnew e2
    refine ⟨by rw [e0]; exact q, j, y', e1, f1, by rw [f2]; exact e3, by rw [f3, e4, e0], ?_⟩
    cases plus with
    | true => exact f5 _ e5
    | false => exact f4 _ e5
  refine ⟨hne, ⟨?_, ?_, fun i x' hx hu => ?_, huq, fun i x' hx hu => ?_, fun i x' hx => ?_, fun i x' hx s hs => ?_, fun i x' hx s hs => ?_, ?_⟩, aAa g.uniq huq (tU ha hb hne)⟩
  · obtain ⟨x, hx, hu⟩ := g.last
    obtain ⟨x', f1, f2, _⟩ := hnew hx
    rw [pE]
    exact ⟨x', f1, by rw [f2]; exact hu⟩
  · obtain ⟨x, hx, hu, hxt⟩ := g.first
    obtain ⟨x', f1, f2, f3, _⟩ := hnew hx
    exact ⟨x', f1, by rw [f2]; exact hu, by rw [f3]; exact hxt⟩
  · obtain ⟨x, f1, f2, f3, _⟩ := hold hx
    rw [f3]
    exact g.typ i x f1 (by rw [← f2]; exact hu)
  · obtain ⟨x, f1, f2, f3, f4, f5⟩ := hold hx
    have hx0 := g.un i x f1 (by rw [← f2]; exact hu)
    rcases f4 with f4 | ⟨_, e, _⟩
    · rcases f5 with f5 | ⟨_, e, _⟩
      · obtain ⟨p1, p2, p3, p4⟩ := x'
        dsimp only at f2 f3 f4 f5
        rw [f2, f3, f4, f5, hx0]
      · rw [← e, ← f2, hu] at hua; cases hua
    · rw [← e, ← f2, hu] at hub; cases hub
  · obtain ⟨x, f1, f2, f3, f4, f5⟩ := hold hx
    obtain ⟨r1, r2⟩ := g.rise i x f1
    refine ⟨?_, ?_⟩
    · rcases f4 with f4 | ⟨_, _, f4⟩
      · rw [f4]; exact r1
      · rw [f4]; exact rK r1
    · rcases f5 with f5 | ⟨_, _, f5⟩
      · rw [f5]; exact r2
      · rw [f5]; exact rK r2
  · obtain ⟨x, f1, f2, f3, f4, f5⟩ := hold hx
    rcases f4 with f4 | ⟨ei, eb, f4⟩
    · rw [f4] at hs
      exact hst i x x' true s f3 (g.plus i x f1 s hs)
    · rw [f4] at hs
      rcases wiS_mem.1 hs with e | ⟨e, _⟩
      · obtain ⟨y', g1, g2, g3, _, _, _, g7⟩ := hnew ha
        subst e ei eb
        exact ⟨by rw [f3]; exact ⟨fun h => absurd h hn, fun h => by cases h⟩, hi, y', rfl, g1, by rw [g2]; exact hua, by rw [g3, f3]; exact ht, g7 rfl⟩
      · exact hst i x x' true s f3 (g.plus i x f1 s e)
  · obtain ⟨x, f1, f2, f3, f4, f5⟩ := hold hx
    rcases f5 with f5 | ⟨ei, ea, f5⟩
    · rw [f5] at hs
      exact hst i x x' false s f3 (g.less i x f1 s hs)
    · rw [f5] at hs
      rcases wiS_mem.1 hs with e | ⟨e, _⟩
      · obtain ⟨y', g1, g2, g3, _, _, g6, _⟩ := hnew hb
        subst e ei ea
        refine ⟨by rw [f3, ht]; exact ⟨fun _ => rfl, fun _ => wiT_mem.2 (.inl rfl)⟩, lo, y', rfl, g1, by rw [g2]; exact hub, ?_, g6 rfl⟩
        show y'.2.1 = outT x'.2.1 id
        rw [g3, f3, ht, out_wi hbt hn]
      · exact hst i x x' false s f3 (g.less i x f1 s e)
  · rw [zZ g.uniq huq (tU ha hb hne)]; exact g.many
end
abbrev cL (l : List ST) (n : Int) : List ST := l.filter (fun s => !decide (s.2 = n))
def offN (p i : Nat) (x : NM) : NM := if i = p then n0 else (x.1, x.2.1, cL x.2.2.1 ((p : Int) + 1), cL x.2.2.2 ((p : Int) + 1))
def gI (l : List NM) : Nat → Nat
  | 0 => 0
  | k + 1 => if (l.getD k n0).1 then k + 1 else gI l k
theorem lG (l : List NM) : ∀ k, gI l k ≤ k ∧ (∀ i, gI l k ≤ i → i < k → (l.getD i n0).1 = false) ∧ (gI l k ≠ 0 → (l.getD (gI l k - 1) n0).1 = true)
  | 0 => ⟨Nat.le_refl _, fun i h1 h2 => by omega, fun h => absurd rfl h⟩
  | k + 1 => by
    unfold gI
    by_cases c : (l.getD k n0).1 = true
    · rw [if_pos c]
      exact ⟨Nat.le_refl _, fun i h1 h2 => by omega, fun _ => c⟩
    · rw [if_neg c]
      obtain ⟨h1, h2, h3⟩ := lG l k
      refine ⟨by omega, fun i a b => ?_, h3⟩
      by_cases e : i = k
      · rw [e]; simpa using c
      · exact h2 i a (by omega)
def rQ (l : List NM) : List NM := l.take (gI l l.length)
def gK (N : List NM) (p : Nat) : List NM := rQ (N.mapIdx (offN p))
theorem wH {l : List NM} {i : Nat} {x : NM} : (rQ l)[i]? = some x → l[i]? = some x ∧ i < gI l l.length := by
  intro h
  unfold rQ at h
  have hl := (List.getElem?_eq_some_iff.1 h).1
  rw [List.length_take] at hl
  rw [List.getElem?_take_of_lt (by omega)] at h
  exact ⟨h, by omega⟩
theorem zU {l : List NM} {i : Nat} {x : NM} (h : l[i]? = some x) (hu : x.1 = true) : (rQ l)[i]? = some x := by
  obtain ⟨h1, h2, _⟩ := lG l l.length
  have hl := (List.getElem?_eq_some_iff.1 h).1
  unfold rQ
  rw [List.getElem?_take_of_lt]
  · exact h
  · refine Decidable.by_contra fun hc => ?_
    have := h2 i (by omega) hl
    rw [cK h, hu] at this; cases this
section
variable {N : List NM} {p : Nat} {a : NM}
theorem gQ {i : Nat} {x' : NM} (hx : (gK N p)[i]? = some x') : ∃ x, N[i]? = some x ∧ x' = offN p i x := by
  obtain ⟨h1, _⟩ := wH hx
  rw [List.getElem?_mapIdx] at h1
  cases hN : N[i]? with
  | none => rw [hN] at h1; cases h1
  | some x => rw [hN] at h1; cases h1; exact ⟨x, rfl, rfl⟩
theorem oL {i : Nat} {x : NM} (hx : N[i]? = some x) (hi : i ≠ p) (hu : x.1 = true) : (gK N p)[i]? = some (offN p i x) := by
  refine zU ?_ ?_
  · rw [List.getElem?_mapIdx, hx]; rfl
  · unfold offN; rw [if_neg hi]; exact hu
theorem fR {i : Nat} {x : NM} (hi : i ≠ p) : offN p i x = (x.1, x.2.1, cL x.2.2.1 ((p : Int) + 1), cL x.2.2.2 ((p : Int) + 1)) := if_neg hi
theorem pR (ha : N[p]? = some a) (hua : a.1 = true) (hu : lK N) (e : Ent) : e ∈ dZ (gK N p) ↔ e ∈ dZ N ∧ e ≠ (1, a.2.1, (p : Int) + 1) := by
  rw [ents_mem, ents_mem]
  constructor
  · rintro ⟨j, x', hx, h1, rfl⟩
    obtain ⟨x, h2, rfl⟩ := gQ hx
    by_cases e : j = p
    · rw [e] at h1; unfold offN at h1; rw [if_pos rfl] at h1; cases h1
    · rw [fR e] at h1 ⊢
      refine ⟨⟨j, x, h2, h1, rfl⟩, fun h => e ?_⟩
      have := congrArg (fun x => x.2.2) h
      dsimp only at this
      omega
  · rintro ⟨⟨j, x, hx, h1, rfl⟩, hne⟩
    by_cases e : j = p
    · subst e
      rw [ha] at hx; cases hx
      exact absurd rfl hne
    · exact ⟨j, _, oL hx e h1, by rw [fR e]; exact h1, by rw [fR e]⟩
theorem pQ (hu : lK N) : lK (gK N p) := by
  intro i j x' y' hx hy h1 h2 e
  obtain ⟨x, a1, rfl⟩ := gQ hx
  obtain ⟨y, b1, rfl⟩ := gQ hy
  have ei : i ≠ p := fun c => by rw [c] at h1; unfold offN at h1; rw [if_pos rfl] at h1; cases h1
  have ej : j ≠ p := fun c => by rw [c] at h2; unfold offN at h2; rw [if_pos rfl] at h2; cases h2
  rw [fR ei] at h1 e
  rw [fR ej] at h2 e
  exact hu i j x y a1 b1 h1 h2 e
theorem aBn (ha : N[p]? = some a) (hua : a.1 = true) (hu : lK N) : dX N = dX (gK N p) + 1 := by
  rw [← fV, ← fV]
  have hp : (dZ N).Perm ((1, a.2.1, (p : Int) + 1) :: dZ (gK N p)) := by
    refine lE (eA (dJ hu)) (List.pairwise_cons.2 ⟨fun y hy e => ((pR ha hua hu y).1 hy).2 e.symm, eA (dJ (pQ hu))⟩) fun e => ?_
    rw [List.mem_cons, pR ha hua hu]
    constructor
    · intro h
      by_cases c : e = (1, a.2.1, (p : Int) + 1)
      · exact .inl c
      · exact .inr ⟨h, c⟩
    · rintro (h | h)
      · rw [h]; exact ents_mem.2 ⟨p, a, ha, hua, rfl⟩
      · exact h.1
  rw [hp.length_eq, List.length_cons]
theorem drop_GR (g : GR N) (ha : N[p]? = some a) (hua : a.1 = true) (hp : p ≠ 0) : GR (gK N p) := by
  obtain ⟨x0, hx0, hu0, ht0⟩ := g.first
  have hz : (gK N p)[0]? = some (offN p 0 x0) := oL hx0 (fun e => hp e.symm) hu0
  have hlen := (List.getElem?_eq_some_iff.1 hz).1
  have hdl : (gK N p).length = gI (N.mapIdx (offN p)) (N.mapIdx (offN p)).length := by
    unfold gK rQ
    rw [List.length_take]
    have := (lG (N.mapIdx (offN p)) (N.mapIdx (offN p)).length).1
    omega
  refine ⟨?_, ⟨_, hz, by rw [fR (fun e => hp e.symm)]; exact hu0, by rw [fR (fun e => hp e.symm)]; exact ht0⟩, fun i x' hx hu => ?_, pQ g.uniq, fun i x' hx hu => ?_, fun i x' hx => ?_, fun i x' hx s hs => ?_, fun i x' hx s hs => ?_, by have := g.many; have := aBn ha hua g.uniq; omega⟩
  · have hk : (gK N p)[(gK N p).length - 1]? = some ((gK N p)[(gK N p).length - 1]'(by omega)) := List.getElem?_eq_getElem (by omega)
    refine ⟨_, hk, ?_⟩
    obtain ⟨_, _, h3⟩ := lG (N.mapIdx (offN p)) (N.mapIdx (offN p)).length
    obtain ⟨h4, _⟩ := wH hk
    rw [← hdl] at h3
    have := h3 (by omega)
    rw [cK h4] at this
    exact this
  · obtain ⟨x, h1, rfl⟩ := gQ hx
    have ei : i ≠ p := fun c => by rw [c] at hu; unfold offN at hu; rw [if_pos rfl] at hu; cases hu
    rw [fR ei] at hu ⊢
    exact g.typ i x h1 hu
  · obtain ⟨x, h1, rfl⟩ := gQ hx
    by_cases ei : i = p
    · rw [ei]; unfold offN; rw [if_pos rfl]
    · rw [fR ei] at hu ⊢
      rw [g.un i x h1 hu]; rfl
  · obtain ⟨x, h1, rfl⟩ := gQ hx
    by_cases ei : i = p
    · rw [ei]; unfold offN; rw [if_pos rfl]; exact ⟨List.Pairwise.nil, List.Pairwise.nil⟩
    · rw [fR ei]
      exact ⟨(g.rise i x h1).1.sublist List.filter_sublist, (g.rise i x h1).2.sublist List.filter_sublist⟩
  · obtain ⟨x, h1, rfl⟩ := gQ hx
    by_cases ei : i = p
    · rw [ei] at hs; unfold offN at hs; rw [if_pos rfl] at hs; cases hs
    · rw [fR ei] at hs ⊢
      obtain ⟨s1, s2⟩ := List.mem_filter.1 hs
      obtain ⟨q, j, y, e1, e2, e3, e4, e5⟩ := g.plus i x h1 s s1
      have ej : j ≠ p := fun c => by rw [e1, c] at s2; simp at s2
      refine ⟨q, j, _, e1, oL e2 ej e3, by rw [fR ej]; exact e3, by rw [fR ej]; exact e4, ?_⟩
      rw [fR ej]
      exact List.mem_filter.2 ⟨e5, by simp; omega⟩
  · obtain ⟨x, h1, rfl⟩ := gQ hx
    by_cases ei : i = p
    · rw [ei] at hs; unfold offN at hs; rw [if_pos rfl] at hs; cases hs
    · rw [fR ei] at hs ⊢
      obtain ⟨s1, s2⟩ := List.mem_filter.1 hs
      obtain ⟨q, j, y, e1, e2, e3, e4, e5⟩ := g.less i x h1 s s1
      have ej : j ≠ p := fun c => by rw [e1, c] at s2; simp at s2
      refine ⟨q, j, _, e1, oL e2 ej e3, by rw [fR ej]; exact e3, by rw [fR ej]; exact e4, ?_⟩
      rw [fR ej]
      exact List.mem_filter.2 ⟨e5, by simp; omega⟩
end
end Go.Eng
end
section
namespace Go.Eng
open Go.Proofs
set_option linter.unusedSimpArgs false
set_option linter.unusedVariables false
def goC (N : List NM) (n : Int) (id : Int) (plus : Bool) : Int :=
  if isM N n then
    (if plus then (if mayM id then (if id ∈ (cZ N n).2.1 then 0 else if (cZ N n).2.1.length = 12 then 6 else ofC N (wiT (cZ N n).2.1 id)) else 2)
    else (if id ∈ (cZ N n).2.1 then ofC N (outT (cZ N n).2.1 id) else 4))
  else 2
def kB (N : List NM) (n : Int) (id : Int) (plus : Bool) : Bool := plus && decide (id ∈ (cZ N n).2.1)
def goT (N : List NM) (n : Int) (id : Int) (plus : Bool) : List Int := fZ plus (cZ N n).2.1 id
def goQ (N : List NM) (n : Int) (id : Int) (plus : Bool) : Nat := ofn N (goT N n id plus)
def goL (N : List NM) (n : Int) (id : Int) (plus : Bool) : List NM :=
  if goC N n id plus = 0 then (if kB N n id plus then N else
    if plus then fF (ofL N (goT N n id plus)) (n - 1).toNat (goQ N n id plus - 1) id else fF (ofL N (goT N n id plus)) (goQ N n id plus - 1) (n - 1).toNat id) else []
def gon (N : List NM) (n : Int) (id : Int) (plus : Bool) : Int := if goC N n id plus = 0 then (if kB N n id plus then n else (goQ N n id plus : Int)) else 0
structure Gone (N : List NM) (n id : Int) (plus : Bool) (p q : Nat) (x y : NM) : Prop where
  np : n = (p : Int) + 1
  hx : N[p]? = some x
  xu : x.1 = true
  oc : ofC N (fZ plus x.2.1 id) = 0
  hq : ofn N (fZ plus x.2.1 id) = q + 1
  hp' : (ofL N (fZ plus x.2.1 id))[p]? = some x
  hy : (ofL N (fZ plus x.2.1 id))[q]? = some y
  yu : y.1 = true
  yt : y.2.1 = fZ plus x.2.1 id
  gr : GR (ofL N (fZ plus x.2.1 id))
  mem : id ∈ x.2.1 ↔ plus = false
theorem mK {N : List NM} {n id : Int} {plus : Bool} (g : GR N) (h : goC N n id plus = 0) :
    (kB N n id plus = true ∧ plus = true ∧ mayM id = true ∧ ∃ (p : Nat) (x : NM), n = (p : Int) + 1 ∧ N[p]? = some x ∧ x.1 = true ∧ id ∈ x.2.1) ∨
    (kB N n id plus = false ∧ ∃ p q x y, Gone N n id plus p q x y) := by
  unfold goC at h
  cases hi : isM N n with
  | false => rw [hi, if_neg (by decide)] at h; exact absurd h (by decide)
  | true =>
    rw [hi, if_pos rfl] at h
    obtain ⟨p, x, hn, hx, hu⟩ := isM_true.1 hi
    have hnd : cZ N n = x := by rw [hn]; exact cO hx
    rw [hnd] at h
    unfold kB
    rw [hnd]
    have fin : ∀ (hm : id ∈ x.2.1 ↔ plus = false), ofC N (fZ plus x.2.1 id) = 0 → ∃ p q x y, Gone N n id plus p q x y := by
      intro hm ho
      obtain ⟨g2, ⟨y, hy, hyu, hyt⟩, h1, hold⟩ := of_GR g ho
      exact ⟨p, ofn N (fZ plus x.2.1 id) - 1, x, y, hn, hx, hu, ho, by omega, hold p x hx hu, hy, hyu, hyt, g2, hm⟩
    cases plus with
    | true =>
      rw [if_pos rfl] at h
      cases hm : mayM id with
      | false => rw [hm, if_neg (by decide)] at h; exact absurd h (by decide)
      | true =>
        rw [hm, if_pos rfl] at h
        by_cases c : id ∈ x.2.1
        · exact .inl ⟨by rw [decide_eq_true c]; rfl, rfl, rfl, p, x, hn, hx, hu, c⟩
        · rw [if_neg c] at h
          by_cases c2 : x.2.1.length = 12
          · rw [if_pos c2] at h; exact absurd h (by decide)
          · rw [if_neg c2] at h
            exact .inr ⟨by rw [decide_eq_false c]; rfl, fin ⟨fun h => absurd h c, fun h => by cases h⟩ h⟩
    | false =>
      rw [if_neg (by decide)] at h
      by_cases c : id ∈ x.2.1
      · rw [if_pos c] at h
        exact .inr ⟨rfl, fin ⟨fun _ => rfl, fun _ => c⟩ h⟩
      · rw [if_neg c] at h; exact absurd h (by decide)
section
variable {N : List NM} {n id : Int} {plus : Bool} {p q : Nat} {x y : NM}
abbrev loP (plus : Bool) (p q : Nat) : Nat := if plus then p else q
abbrev hiP (plus : Bool) (p q : Nat) : Nat := if plus then q else p
abbrev loX (plus : Bool) (x y : NM) : NM := if plus then x else y
abbrev hiX (plus : Bool) (x y : NM) : NM := if plus then y else x
theorem Gone.link (h : Gone N n id plus p q x y) (g : GR N) :
    (ofL N (fZ plus x.2.1 id))[hiP plus p q]? = some (hiX plus x y) ∧ (ofL N (fZ plus x.2.1 id))[loP plus p q]? = some (loX plus x y) ∧ (hiX plus x y).1 = true ∧ (loX plus x y).1 = true ∧ (hiX plus x y).2.1 = wiT (loX plus x y).2.1 id ∧ id ∉ (loX plus x y).2.1 := by
  have hr := (typeB_iff.1 (g.typ p x h.hx h.xu)).2.1
  cases plus with
  | true => exact ⟨h.hy, h.hp', h.yu, h.xu, h.yt, fun c => by have := h.mem.1 c; cases this⟩
  | false =>
    have e : y.2.1 = outT x.2.1 id := h.yt
    refine ⟨h.hp', h.hy, h.xu, h.yu, ?_, fun c => ?_⟩
    · show x.2.1 = wiT y.2.1 id
      rw [e, wi_out hr (h.mem.2 rfl)]
    · have c : id ∈ y.2.1 := c
      rw [e, outT_mem] at c
      exact c.2 rfl
theorem Gone.goL (h : Gone N n id plus p q x y) (hc : goC N n id plus = 0) (hs : kB N n id plus = false) : Eng.goL N n id plus = fF (ofL N (fZ plus x.2.1 id)) (loP plus p q) (hiP plus p q) id ∧ Eng.gon N n id plus = (q : Int) + 1 := by
  have hnd : cZ N n = x := by rw [h.np]; exact cO h.hx
  have hT : goT N n id plus = fZ plus x.2.1 id := by unfold goT; rw [hnd]
  have hQ : goQ N n id plus = q + 1 := by unfold goQ; rw [hT, h.hq]
  have e1 : (n - 1).toNat = p := by rw [h.np]; omega
  refine ⟨?_, ?_⟩
  · unfold Eng.goL
    rw [if_pos hc, hs, if_neg (by decide), hT, hQ, e1, Nat.add_sub_cancel]
    cases plus <;> rfl
  · unfold gon
    rw [if_pos hc, hs, if_neg (by decide), hQ]; omega
theorem Gone.facts (h : Gone N n id plus p q x y) (g : GR N) : loP plus p q ≠ hiP plus p q ∧ GR (fF (ofL N (fZ plus x.2.1 id)) (loP plus p q) (hiP plus p q) id) ∧ dZ (fF (ofL N (fZ plus x.2.1 id)) (loP plus p q) (hiP plus p q) id) = dZ (ofL N (fZ plus x.2.1 id)) := by
  obtain ⟨h1, h2, h3, h4, h5, h6⟩ := h.link g
  exact link_GR h.gr h1 h2 h3 h4 h5 h6
end
theorem go_GR {N : List NM} {n id : Int} {plus : Bool} (g : GR N) (h : goC N n id plus = 0) : GR (goL N n id plus) := by
  rcases mK g h with ⟨hs, _⟩ | ⟨hs, p, q, x, y, hg⟩
  · unfold goL; rw [if_pos h, if_pos hs]; exact g
  · rw [(hg.goL h hs).1]; exact (hg.facts g).2.1
end Go.Eng
end
section
namespace Go.Eng
open Go.RowKit
section
variable {P : Program} {f : FuncId} {ro : Option Nat} {n : Nat} {R : Value → World → Prop} {k : List Item} {ds : List Deferred} {env env0 : Env} {w0 w w' : World} {F : Nat → Prop}
variable {ops : Array Oper} {C : List HP}
theorem lN {u v : Value} {w w' : World} (h : Is u w v w') : v = u ∧ w' = w := h
theorem gC {a : Option Addr} {n c e sz k : Nat} {xs : List Value} (h : dH a k) : (Row a n c e sz xs).foot k := h
theorem J_drawW {id : Nat} (T : List Nat) (σ : List (Nat × Nat)) (τ : List Nat) {R0 : HP} (hs : St w0 F w (R0 :: C)) (hm : P.follows .mixedOrders = true) (hT : kA ops T = true) (hN : fC ops T = true) (hp : gB ops.size T σ τ [] [] = true) (hlt : (eB σ ++ τ).all (fun i => Nat.blt i ops.size) = true) (hdst : ops.toList.all (mQ n) = true)
    (hk : ∀ N, N = w.heap.size → JX P f ro n R ops T w0 F (fun k => R0.foot k ∨ N ≤ k) N C [] σ τ [] env k ds env (R0 :: C)) : J P f ro n R (.code (.region id ops true) :: k) ds env w :=
  tG T σ τ hs ⟨fun k hk hnF h => by
      rcases h with h | h
      · have := (hs.foot _ List.mem_cons_self k h).2.resolve_left hnF; omega
      · have := hs.frm.size; omega,
    fun c hc k hk h => by
      rcases h with h | h
      · exact (List.pairwise_cons.1 hs.sep).1 c hc k h hk
      · have := (hs.foot c (List.mem_cons_of_mem _ hc) k hk).1; omega,
    hs.sub (List.sublist_cons_self _ _), Nat.le_refl _⟩ hm hT hN hp hlt hdst (hk _ rfl)
theorem aCf {id : Nat} (T : List Nat) (σ : List (Nat × Nat)) (τ : List Nat) (A C0 : List HP) (hs : St w0 F w C) (hC : A ++ C0 = C) (hm : P.follows .mixedOrders = true) (hT : kA ops T = true) (hN : fC ops T = true) (hp : gB ops.size T σ τ [] [] = true) (hlt : (eB σ ++ τ).all (fun i => Nat.blt i ops.size) = true) (hdst : ops.toList.all (mQ n) = true)
    (hk : ∀ Z : Nat → Prop, (∀ k, Z k ↔ ((F k ∨ w0.heap.size ≤ k) ∧ ∀ c ∈ C0, ¬ c.foot k)) → JX P f ro n R ops T w0 F Z 0 C0 [] σ τ [] env k ds env C) : J P f ro n R (.code (.region id ops true) :: k) ds env w :=
  tG T σ τ hs ⟨fun k hk hnF h => by
      rcases h.1 with h | h
      · exact hnF h
      · omega,
    fun c hc k hk h => h.2 c hc hk,
    hs.sub (by rw [← hC]; exact List.sublist_append_right _ _), Nat.zero_le _⟩ hm hT hN hp hlt hdst (hk _ (fun _ => Iff.rfl))
theorem St.zfoot {Z : Nat → Prop} {A C0 : List HP} (hs : St w0 F w (A ++ C0)) (hZ : ∀ k, Z k ↔ ((F k ∨ w0.heap.size ≤ k) ∧ ∀ c ∈ C0, ¬ c.foot k)) : ∀ k, (Star A).foot k → Z k := fun k ⟨c, hc, hk⟩ =>
  (hZ k).2 ⟨(hs.foot c (List.mem_append_left _ hc) k hk).2, fun d hd hkd => (List.pairwise_append.1 hs.sep).2.2 c hc d hd k hk hkd⟩
theorem St.rlV {Z : Nat → Prop} {A C0 : List HP} {W : World} (hs : St w0 F w (A ++ C0)) (hZ : ∀ k, Z k ↔ ((F k ∨ w0.heap.size ≤ k) ∧ ∀ c ∈ C0, ¬ c.foot k)) (hr : Rl Z w W) : St w0 F W C0 :=
  (ZOk.rl (w0 := w0) (F := F) (Z := Z) (N0 := 0) (C0 := C0) ⟨fun k hk hnF h => by
      rcases ((hZ k).1 h).1 with h | h
      · exact hnF h
      · omega,
    fun c hc k hk h => ((hZ k).1 h).2 c hc hk, hs.sub (List.sublist_append_right _ _), Nat.zero_le _⟩ hr).st
variable {T : List Nat} {X : Nat → Prop} {σ : List (Nat × Bool)} {τ : List Nat} {D : List (Nat × Value)}
theorem gM (l : List Nat) (hne : (σ.map (·.1) ++ τ).isEmpty = false) (hl : cand ops.size T (σ.map (·.1) ++ τ) (D.map (·.1)) = l) (h : AllL (JDH P f ro n R ops T X σ τ D env0 k ds env w) l) : JD P f ro n R ops T X σ τ D env0 k ds env w := JD_any hne (by rw [hl]; exact h)
variable {op : Op} {ty : TypeId} {pos : String} {af : Array Edge}
theorem lB {i t : Nat} {S : Value → World → Prop} (σ' : List (Nat × Bool)) (hσ : σ.filter (fun x => x.1 != i) = σ') (hp' : planOk ops.size T σ' τ (i :: D.map (·.1)) = true) (hm1 : (σ.map (·.1) ++ τ).all (fun x => x == i || (σ'.map (·.1) ++ τ).contains x) = true)
    (hm2 : (σ'.map (·.1) ++ τ).all (fun x => x != i && (σ.map (·.1) ++ τ).contains x) = true) (ho : ops[i]? = some ⟨some t, op, ty, pos, af, none⟩) (hnd : cG op = true) (h : OpR P env ⟨some t, op, ty, pos, af, none⟩ w S) (hS : ∀ v w', S v w' → Rl X w w')
    (hk : ∀ v w', S v w' → JD P f ro n R ops T X σ' τ ((i, v) :: D) env0 k ds ((t, v) :: env) w') : JDH P f ro n R ops T X σ τ D env0 k ds env w i := by
  subst hσ; exact xL hp' hm1 hm2 ho (iV rfl h) hS hnd hk
theorem aCk {i : Nat} {S : Value → World → Prop} (σ' : List (Nat × Bool)) (hσ : σ.filter (fun x => x.1 != i) = σ') (hp' : planOk ops.size T σ' τ (i :: D.map (·.1)) = true) (hm1 : (σ.map (·.1) ++ τ).all (fun x => x == i || (σ'.map (·.1) ++ τ).contains x) = true)
    (hm2 : (σ'.map (·.1) ++ τ).all (fun x => x != i && (σ.map (·.1) ++ τ).contains x) = true) (ho : ops[i]? = some ⟨none, op, ty, pos, af, none⟩) (hnd : cG op = true) (h : OpR P env ⟨none, op, ty, pos, af, none⟩ w S) (hS : ∀ v w', S v w' → Rl X w w')
    (hk : ∀ v w', S v w' → JD P f ro n R ops T X σ' τ ((i, v) :: D) env0 k ds env w') : JDH P f ro n R ops T X σ τ D env0 k ds env w i := by
  subst hσ; exact xL hp' hm1 hm2 ho (iV rfl h) hS hnd hk
end
end Go.Eng
end
section
namespace Go.Eng
open Go.Proofs
set_option linter.unusedSimpArgs false
set_option linter.unusedVariables false
theorem sL (rs : List RNd) : (encL cNd rs).length = rs.length * 4 := eK (d := dRNd) rs
theorem xB (rs : List REnt) : (encL bS rs).length = rs.length * 3 := eK (d := eV) rs
abbrev LMax (E : List Ent) : Prop := ∀ x ∈ E, x.2.1.length ≤ 1000000
theorem aBg (rs : List RNd) (k : Nat) (r : RNd) (a : Option Addr) (m c : Nat) (hr : rs[k]? = some r) : bR (encL cNd rs) (k * 4 + 1) [.slice a m c] = encL cNd (rs.set k (r.1, (a, m, c), r.2.2)) := kW (d := dRNd) rs k 1 r _ _ hr (by show 1 + 1 ≤ 4; omega) rfl
theorem kU (rs : List RNd) (k : Nat) (r : RNd) (a : Option Addr) (m c : Nat) (hr : rs[k]? = some r) : bR (encL cNd rs) (k * 4 + 2) [.slice a m c] = encL cNd (rs.set k (r.1, r.2.1, (a, m, c), r.2.2.2)) := kW (d := dRNd) rs k 2 r _ _ hr (by show 2 + 1 ≤ 4; omega) rfl
theorem kT (rs : List RNd) (k : Nat) (r : RNd) (a : Option Addr) (m c : Nat) (hr : rs[k]? = some r) : bR (encL cNd rs) (k * 4 + 3) [.slice a m c] = encL cNd (rs.set k (r.1, r.2.1, r.2.2.1, (a, m, c))) := kW (d := dRNd) rs k 3 r _ _ hr (by show 3 + 1 ≤ 4; omega) rfl
theorem aA8 {α : Type} {l1 l2 : List α} {k : Nat} {r : α} (h : l1.length = k) (hr : l2[k]? = some r) : (l1 ++ l2.drop k)[k]? = some r := by rw [List.getElem?_append_right (by omega), h, Nat.sub_self, List.getElem?_drop, Nat.add_zero]; exact hr
theorem nm_eq {x y : NM} : x = y ↔ x.1 = y.1 ∧ x.2.1 = y.2.1 ∧ x.2.2.1 = y.2.2.1 ∧ x.2.2.2 = y.2.2.2 := by
  obtain ⟨a, b, c, d⟩ := x
  obtain ⟨a2, b2, c2, d2⟩ := y
  simp
theorem wG (xs : List Int) : mX xs = encL cId xs := (wZ xs).symm
attribute [local irreducible] Hold J JL JD JX JXat OpR OpG Ret RetV Is Blk Row
set_option maxRecDepth 100000
set_option maxHeartbeats 2000000
theorem aBu (w : World) (a : Option Addr) (n c : Nat) (rs : List RNd) (h : Sl dRNd All w a n c rs) (hn : n ≤ 1000000) :
    Ret Tryz.prog 178 #[.slice a n c] w fun v w' => ∃ a', v = .slice a' n n ∧ Fresh w w' [TabN a' n n rs] := by
  refine bI (l := [_]) Tryz.func178 rfl Tryz.ntmps178 (by simp) ?_
  have hs := St.init w
  obtain ⟨hsrc, hpl, _⟩ := h.srcF
  have hl := h.len
  have hE0 : (encL cNd rs).length = n * 4 := by rw [sL, hl]
  repeat' (first | ((apply aF (t := 6); refine JL_o (by apply eP; exact iU hs rfl rfl (by omega) (by omega)) rfl rfl ?_; rintro _ _ ⟨b8, rfl, hb8, hs, hE⟩; have hs := hs.toRow 0 n n 4 (Nat.le_refl _) (by unfold maxLen; omega) (by simp [madeCells]) rfl)) | ((apply aF (t := 9); refine JL_o (by apply fH; exact fJ (sz := 4) (off := 0) (vs := encL cNd rs) (a := some ⟨b8, 0, none⟩) (n := n) (c := n) (by omega) hs rfl rfl (fun _ => rfl) (by omega) (by rw [Nat.min_self]; exact Src.st hsrc hs) (by rw [Nat.min_self]; exact hpl)) rfl rfl ?_; rintro _ _ ⟨rfl, hs, hF⟩; rw [gY 4 (by rw [hE0]; simp [madeCells])] at hs)) | (apply aH) | ((apply aC); exact zop; first | (exact rfl; exact rfl) | exact rfl) | (apply aQ) | (apply aB))
  refine aM Tryz.func178 rfl (.tmp rfl .nil) ⟨_, rfl, hs.out (List.Sublist.refl _)⟩
theorem aBv (w : World) (a : Option Addr) (n c : Nat) (rs : List REnt) (h : Sl eV All w a n c rs) (hn : n ≤ 1048576) :
    Ret Tryz.prog 179 #[.slice a n c] w fun v w' => ∃ a', v = .slice a' n n ∧ Fresh w w' [bZ a' n n rs] := by
  refine bI (l := [_]) Tryz.func179 rfl Tryz.ntmps179 (by simp) ?_
  have hs := St.init w
  obtain ⟨hsrc, hpl, _⟩ := h.srcF
  have hl := h.len
  have hE0 : (encL bS rs).length = n * 3 := by rw [xB, hl]
  repeat' (first | ((apply aF (t := 6); refine JL_o (by apply eP; exact iU hs rfl rfl (by omega) (by omega)) rfl rfl ?_; rintro _ _ ⟨b8, rfl, hb8, hs, hE⟩; have hs := hs.toRow 0 n n 3 (Nat.le_refl _) (by unfold maxLen; omega) (by simp [madeCells]) rfl)) | ((apply aF (t := 9); refine JL_o (by apply fH; exact fJ (sz := 3) (off := 0) (vs := encL bS rs) (a := some ⟨b8, 0, none⟩) (n := n) (c := n) (by omega) hs rfl rfl (fun _ => rfl) (by omega) (by rw [Nat.min_self]; exact Src.st hsrc hs) (by rw [Nat.min_self]; exact hpl)) rfl rfl ?_; rintro _ _ ⟨rfl, hs, hF⟩; rw [gY 3 (by rw [hE0]; simp [madeCells])] at hs)) | (apply aH) | ((apply aC); exact zop; first | (exact rfl; exact rfl) | exact rfl) | (apply aQ) | (apply aB))
  refine aM Tryz.func179 rfl (.tmp rfl .nil) ⟨_, rfl, hs.out (List.Sublist.refl _)⟩
-- WROW 107 5 : [1, 0, 2, 3, 4, 5]
theorem tY (w : World) (a a2 : Option Addr) (n c n2 c2 : Nat) (N : List NM) (E : List Ent) (h : Sl eD All w a n c N) (hE0 : Sl dEnt All w a2 n2 c2 E) (hn : n ≤ 1000000) (hn2 : n2 ≤ 1048576) (hz : szN N) (hze : LMax E) :
    Ret Tryz.prog 107 #[.agg #[.slice a n c, .slice a2 n2 c2]] w fun v w' => ∃ (qs : List QN) (rs' : List REnt) (a' a2' : Option Addr), (qs.map fO = N ∧ ∀ q ∈ qs, okN q) ∧ v = .agg #[.slice a' n n, .slice a2' n2 n2] ∧ Fresh w w' [TabN a' n n (qs.map rawN), OwnN qs, bZ a2' n2 n2 rs', Own rs' E] := by
  refine bI (l := [_]) Tryz.func107 rfl Tryz.ntmps107 (by simp) ?_
  have hs := St.init w
  have hl := h.len
  have hl2 := hE0.len
  have hNo := qL h
  have hEo := mC hE0
  obtain ⟨rs, hr, hm⟩ := Sl.raw (D := gD) h
  obtain ⟨re, hre, hme⟩ := Sl.raw (D := fB) hE0
  have hlr := hr.len
  have hlre := hre.len
  repeat' (first | ((apply ax_c; apply gG 178; exact rfl; (intro W X hN hs; exact aA en178 rfl (aBu _ a n c rs (hr.st hs) hn)); (rintro _ _ _ _ ⟨a1, rfl, hf⟩; first | exact hE | exact Fresh.ext hf); rintro W X _ _ hN hs ⟨a1, rfl, hf⟩; have hs := hs.fresh hf; (try simp only [zcc] at hs); refine JX.at hs ?_)) | ((apply ax_c; apply gG 179; exact rfl; (intro W X hN hs; exact aA en179 rfl (aBv _ a2 n2 c2 re (hre.st hs) hn2)); (rintro _ _ _ _ ⟨a3, rfl, hf⟩; first | exact hE | exact Fresh.ext hf); rintro W X _ _ hN hs ⟨a3, rfl, hf⟩; have hs := hs.fresh hf; (try simp only [zcc] at hs); refine JX.at hs ?_)) | (apply aH) | ((first | (apply aC) | (apply JX_f; exact rfl; intro W X hs)); exact zop; first | (exact rfl; exact rfl) | exact rfl) | (apply aQ) | (apply aB) | (apply aN) | (apply aF (t := 1); refine JL_o (by apply bN; exact bC hs rfl) rfl rfl ?_; rintro _ _ ⟨b1, rfl, hb1, hs, hE⟩) | (apply aF (t := 2); refine JL_o (by apply aR; exact aJ hs) rfl rfl ?_; rintro _ _ ⟨b2, rfl, hb2, hs, hE⟩) | (apply aU; refine JL_u (by apply aP; exact aK hs rfl rfl rfl) rfl ?_; rintro _ _ ⟨hs, hF⟩) | (apply bV; (refine bQ (id := 1) [0, 1, 3, 0, 8, 24, 63, 63, 255, 511, 1023, 2047] [(0, 0), (1, 0), (3, 0), (4, 0), (5, 0), (2, 1), (7, 0), (6, 1)] [8, 9, 10, 11] hs cQ (by kernel_rfl) (by kernel_rfl) (by kernel_rfl) (by kernel_rfl) (by kernel_rfl) ?_)) | (refine bU (fun W hs => ?_)) | (apply eS; case' hos => (simp only [List.map_cons, List.map_nil, List.getElem?_toArray, List.getElem?_cons_succ, List.getElem?_cons_zero]; repeat' (first | exact fS | apply eR))))
  have hs := hs.nilN
  refine bT (α := Nat × List QN) [(1, _), (2, _), (18, _), (19, _)] (fun g => [(20, .int .i64 g.1)]) (fun g w' => St w NoF w' [TabN a1 n n (g.2.map rawN ++ rs.drop g.1), OwnN g.2, bZ a3 n2 n2 re, Blk b2 (.cells #[.slice none 0 0, .slice none 0 0] 57 (0, 0)), Blk b1 (.cells #[.slice a1 n n, .slice a3 n2 n2] 57 (0, 0))] ∧ (g.2.map fO = N.take g.1 ∧ ∀ q ∈ g.2, okN q) ∧ g.1 ≤ n) (fun g => n - g.1) (0, []) ⟨hs.sel [2, 0, 1, 3, 4] (by decide), ⟨rfl, fun q hq => by cases hq⟩, Nat.zero_le _⟩ zss ?_
  rintro ⟨k, qs⟩ w2 ⟨hs1, ⟨hqm, hqo⟩, hk⟩ ih
  dsimp only at hs1 hqm hqo hk ih ⊢
  have hql : qs.length = k := by have := congrArg List.length hqm; rw [List.length_map, List.length_take] at this; omega
  by_cases hlt : k < n
  · obtain ⟨b, o, rfl⟩ := (hs1.row a1 n n).some (by omega)
    have hs : St w NoF w2 [_, _, _, _, _] := hs1
    have hx : N[k]? = some (N[k]'(by omega)) := List.getElem?_eq_getElem (by omega)
    obtain ⟨x, hxd⟩ : ∃ x, x = N[k]'(by omega) := ⟨_, rfl⟩
    rw [← hxd] at hx
    obtain ⟨z1, z2, z3⟩ := hz x (List.mem_of_getElem? hx)
    obtain ⟨o1, o2, o3⟩ := hNo x (List.mem_of_getElem? hx)
    obtain ⟨r, hrx, f1, f2, f3, f4⟩ := hm.get hx
    have f1 : r.1 = x.1 := f1
    have m1 : Sl dId All w r.2.1.1 r.2.1.2.1 r.2.1.2.2 x.2.1 := f2
    have m2 : Sl dStp All w r.2.2.1.1 r.2.2.1.2.1 r.2.2.1.2.2 x.2.2.1 := f3
    have m3 : Sl dStp All w r.2.2.2.1 r.2.2.2.2.1 r.2.2.2.2.2 x.2.2.2 := f4
    have l1 := m1.len
    have l2 := m2.len
    have l3 := m3.len
    obtain ⟨R0, hR0⟩ : ∃ R0, R0 = qs.map rawN ++ rs.drop k := ⟨_, rfl⟩
    have hcur : R0[k]? = some r := by rw [hR0]; exact aA8 (by rw [List.length_map]; exact hql) hrx
    have hR0l : k < R0.length := (List.getElem?_eq_some_iff.1 hcur).1
    have hld : ∀ (q : Nat) (u : Value), (cNd r)[q]? = some u → (encL cNd R0)[k * 4 + q]? = some u := fun q u hq => by
      have hq4 : q < 4 := (List.getElem?_eq_some_iff.1 hq).1
      rw [show (encL cNd R0)[k * 4 + q]? = (cNd r)[q]? from dK (d := dRNd) R0 k q r hcur hq4]; exact hq
    have hg1 : ∀ q1, (R0.set k (r.1, q1, r.2.2))[k]? = some (r.1, q1, r.2.2) := fun q1 => List.getElem?_set_self hR0l
    have hg2 : ∀ q1 q2, (R0.set k (r.1, q1, q2, r.2.2.2))[k]? = some (r.1, q1, q2, r.2.2.2) := fun q1 q2 => List.getElem?_set_self hR0l
    have hset1 : ∀ (a : Option Addr) (m c : Nat), bR (encL cNd R0) (k * 4 + 1) [.slice a m c] = encL cNd (R0.set k (r.1, (a, m, c), r.2.2)) := fun a m c => aBg R0 k r a m c hcur
    have hset2 : ∀ q1 (a : Option Addr) (m c : Nat), bR (encL cNd (R0.set k (r.1, q1, r.2.2))) (k * 4 + 2) [.slice a m c] = encL cNd (R0.set k (r.1, q1, (a, m, c), r.2.2.2)) := fun q1 a m c => (kU _ k _ a m c (hg1 q1)).trans (by rw [List.set_set])
    have hset3 : ∀ q1 q2 (a : Option Addr) (m c : Nat), bR (encL cNd (R0.set k (r.1, q1, q2, r.2.2.2))) (k * 4 + 3) [.slice a m c] = encL cNd (R0.set k (r.1, q1, q2, (a, m, c))) := fun q1 q2 a m c => (kT _ k _ a m c (hg2 q1 q2)).trans (by rw [List.set_set])
    have hmid : ∀ q, R0.set k q = (qs.map rawN ++ [q]) ++ rs.drop (k + 1) := fun q => by rw [hR0]; exact oU _ rs k q (by rw [List.length_map]; exact hql) (by omega)
    have htk : N.take (k + 1) = N.take k ++ [x] := by rw [List.take_add_one, hx]; rfl
    rw [← hR0] at hs
    repeat' (first | ((apply ax_c; apply gG 114; exact rfl; (intro W X hN hs; exact aA en114 rfl (mR _ r.2.1.1 r.2.1.2.1 r.2.1.2.2 x.2.1 (m1.st hs) (by omega))); (rintro _ _ _ _ ⟨a5, rfl, hf⟩; first | exact hE | exact Fresh.ext hf); rintro W X _ _ hN hs ⟨a5, rfl, hf⟩; have hs := hs.fresh hf; (try simp only [zcc] at hs); refine JX.at hs ?_)) | ((apply ax_c; apply gG 180; exact rfl; (intro W X hN hs; exact aA en180 rfl (uS _ r.2.2.1.1 r.2.2.1.2.1 r.2.2.1.2.2 x.2.2.1 (m2.st hs) (by omega))); (rintro _ _ _ _ ⟨a6, rfl, hf⟩; first | exact hE | exact Fresh.ext hf); rintro W X _ _ hN hs ⟨a6, rfl, hf⟩; have hs := hs.fresh hf; (try simp only [zcc] at hs); refine JX.at hs ?_)) | ((apply ax_c; apply gG 180; exact rfl; (intro W X hN hs; exact aA en180 rfl (uS _ r.2.2.2.1 r.2.2.2.2.1 r.2.2.2.2.2 x.2.2.2 (m3.st hs) (by omega))); (rintro _ _ _ _ ⟨a7, rfl, hf⟩; first | exact hE | exact Fresh.ext hf); rintro W X _ _ hN hs ⟨a7, rfl, hf⟩; have hs := hs.fresh hf; (try simp only [zcc] at hs); refine JX.at hs ?_)) | ((apply ax_c; apply JX_cu; exact rfl; (intro W X hN hs; apply aP; exact cD (b := b) (o := o) (off := k * 4 + 1) (n := n) (c := n) (vs := [.slice a5 r.2.1.2.1 r.2.1.2.1]) hs rfl rfl rfl rfl (by simp [Value.oneCell']) (by show k * 4 + 1 + 1 ≤ n * 4; omega)); (rintro _ _ _ _ ⟨_, hF⟩; exact Frm.rlZ hF (fun k hk => .inl (gC hk))); exact rfl; rintro W X _ _ hN hs0 ⟨hs, hF⟩; rw [hset1] at hs; refine JX.at hs ?_)) | ((apply ax_c; apply JX_cu; exact rfl; (intro W X hN hs; apply aP; exact cD (b := b) (o := o) (off := k * 4 + 2) (n := n) (c := n) (vs := [.slice a6 r.2.2.1.2.1 r.2.2.1.2.1]) hs rfl rfl rfl rfl (by simp [Value.oneCell']) (by show k * 4 + 2 + 1 ≤ n * 4; omega)); (rintro _ _ _ _ ⟨_, hF⟩; exact Frm.rlZ hF (fun k hk => .inl (gC hk))); exact rfl; rintro W X _ _ hN hs0 ⟨hs, hF⟩; rw [hset2] at hs; refine JX.at hs ?_)) | ((apply aU; refine JL_u (by apply aP; exact cD (b := b) (o := o) (off := k * 4 + 3) (n := n) (c := n) (vs := [.slice a7 r.2.2.2.2.1 r.2.2.2.2.1]) hs rfl rfl rfl rfl (by simp [Value.oneCell']) (by show k * 4 + 3 + 1 ≤ n * 4; omega)) rfl ?_; rintro _ _ ⟨hs, hF⟩; rw [hset3] at hs)) | (apply aH) | ((first | (apply aC) | (apply aCi; exact rfl; intro W hs)); (first | (apply aT; exact iH (b := b) (o := o) (off := k * 4) (n := n) (c := n) hs rfl rfl hld aI) | exact zop); first | (exact rfl; exact rfl) | exact rfl) | (apply aQ) | (apply aB) | (apply aN) | (apply aW) | (apply aV) | (apply aF (t := 4); refine JL_o (by apply aR; exact aJ hs) rfl rfl ?_; rintro _ _ ⟨b4, rfl, hb4, hs, hE⟩) | (apply aU; refine JL_u (by apply aP; exact aK hs rfl rfl rfl) rfl ?_; rintro _ _ ⟨hs, hF⟩) | (apply aG; refine aS rfl ob ?_) | (apply bV; (refine J_drawW (id := 5) [0, 1, 0, 0, 8, 0, 0, 64, 0, 0, 512, 1536, 0, 4096, 15872, 0, 32768, 130560, 261639, 523783, 1048071, 2096703, 4193855, 8388159, 16777215, 33554431, 67108863] [(0, 0), (1, 0), (2, 0), (3, 0), (4, 0), (5, 0), (6, 0), (7, 0), (8, 0), (9, 0), (10, 0), (12, 0), (13, 0), (15, 0), (16, 0), (11, 1), (14, 1), (17, 1), (18, 0), (19, 0), (20, 1), (21, 0), (22, 0), (23, 1), (24, 0), (25, 0)] [26] (show St _ _ _ [_, _, _, _, _, _] from hs.sel [1, 0, 2, 3, 4, 5] (by decide)) cQ (by kernel_rfl) (by kernel_rfl) (by kernel_rfl) (by kernel_rfl) (by kernel_rfl) ?_; intro NZ hNZ)) | (refine bU (fun W hs => ?_)) | (apply eS; case' hos => (simp only [List.map_cons, List.map_nil, List.getElem?_toArray, List.getElem?_cons_succ, List.getElem?_cons_zero]; repeat' (first | exact fS | apply eR))))
    rw [hmid] at hs
    obtain ⟨q, hq⟩ : ∃ q : QN, q = (r.1, ((a5, r.2.1.2.1, r.2.1.2.1), x.2.1), ((a6, r.2.2.1.2.1, r.2.2.1.2.1), x.2.2.1), ((a7, r.2.2.2.2.1, r.2.2.2.2.1), x.2.2.2)) := ⟨_, rfl⟩
    have hs := St.packN (q := (r.1, ((a5, r.2.1.2.1, r.2.1.2.1), x.2.1), ((a6, r.2.2.1.2.1, r.2.2.1.2.1), x.2.2.1), ((a7, r.2.2.2.2.1, r.2.2.2.2.1), x.2.2.2))) (L := [OwnN qs, _, _, _, _]) (hs.sel [2, 1, 0, 5, 3, 6, 7, 8] (by decide))
    rw [← hq] at hs
    have hs := St.pushN hs
    have hmp : (qs ++ [q]).map rawN = qs.map rawN ++ [(r.1, (a5, r.2.1.2.1, r.2.1.2.1), (a6, r.2.2.1.2.1, r.2.2.1.2.1), (a7, r.2.2.2.2.1, r.2.2.2.2.1))] := by rw [List.map_append, hq]; rfl
    have hqok : okN q := by rw [hq]; exact ⟨⟨l1.symm, o1⟩, ⟨l2.symm, o2⟩, ⟨l3.symm, o3⟩⟩
    have hqm2 : fO q = x := by rw [hq]; exact nm_eq.2 ⟨f1, rfl, rfl, rfl⟩
    refine ih (k + 1, qs ++ [q]) _ _ ⟨by dsimp only; rw [hmp]; exact hs.sel [1, 0, 2, 3, 4] (by decide), ⟨by dsimp only; rw [List.map_append, hqm, htk]; rw [List.map_cons, hqm2]; rfl, fun u hu => ?_⟩, by dsimp only; omega⟩ (by dsimp only; omega) zss
    rcases List.mem_append.1 hu with e | e
    · exact hqo u e
    · rw [List.mem_singleton.1 e]; exact hqok
  · have hkn : k = n := by omega
    rw [hkn, List.drop_of_length_le (by omega), List.append_nil] at hs1
    rw [hkn, List.take_of_length_le (by omega)] at hqm
    have hs : St w NoF w2 [_, _, _, _, _] := hs1
    repeat' (first | (apply aH) | ((apply aC); exact zop; first | (exact rfl; exact rfl) | exact rfl) | (apply aQ) | (apply aB) | (apply aN) | (apply bG; refine bP rfl ?_) | (apply aG; refine aZ rfl ob ?_))
    clear ih
    have hs := hs.nilOwn
    refine bT (α := Nat × List REnt) [(1, _), (2, _), (52, _), (53, _)] (fun g => [(54, .int .i64 g.1)]) (fun g w' => St w NoF w' [bZ a3 n2 n2 (g.2 ++ re.drop g.1), Own g.2 (E.take g.1), TabN a1 n n (qs.map rawN), OwnN qs, Blk b2 (.cells #[.slice none 0 0, .slice none 0 0] 57 (0, 0)), Blk b1 (.cells #[.slice a1 n n, .slice a3 n2 n2] 57 (0, 0))] ∧ g.2.length = g.1 ∧ g.1 ≤ n2) (fun g => n2 - g.1) (0, []) ⟨hs.sel [3, 0, 1, 2, 4, 5] (by decide), rfl, Nat.zero_le _⟩ zss ?_
    rintro ⟨k2, rs3⟩ w3 ⟨hs2, hk3, hk2⟩ ih
    dsimp only at hs2 hk3 hk2 ih ⊢
    by_cases hlt2 : k2 < n2
    · obtain ⟨b, o, rfl⟩ := (hs2.row a3 n2 n2).some (by omega)
      have hs : St w NoF w3 [_, _, _, _, _, _] := hs2
      have hx : E[k2]? = some (E[k2]'(by omega)) := List.getElem?_eq_getElem (by omega)
      obtain ⟨x, hxd⟩ : ∃ x, x = E[k2]'(by omega) := ⟨_, rfl⟩
      rw [← hxd] at hx
      obtain ⟨r, hrx, hrel⟩ := hme.get hx
      obtain ⟨ok1, ok2, ok3⟩ := hEo x (List.mem_of_getElem? hx)
      have ok4 := hze x (List.mem_of_getElem? hx)
      have e1 : r.1 = x.1 := hrel.1
      have e3 : r.2.2 = x.2.2 := hrel.2.2
      have m2 : Sl dId All w r.2.1.1 r.2.1.2.1 r.2.1.2.2 x.2.1 := hrel.2.1
      have mlen := m2.len
      have hcur : (rs3 ++ re.drop k2)[k2]? = some r := aA8 hk3 hrx
      have hld : ∀ (q : Nat) (u : Value), (bS r)[q]? = some u → (encL bS (rs3 ++ re.drop k2))[k2 * 3 + q]? = some u := fun q u hq => by
        have hq3 : q < 3 := (List.getElem?_eq_some_iff.1 hq).1
        rw [show (encL bS (rs3 ++ re.drop k2))[k2 * 3 + q]? = (bS r)[q]? from dK (d := eV) (rs3 ++ re.drop k2) k2 q r hcur hq3]; exact hq
      have htk : E.take (k2 + 1) = E.take k2 ++ [x] := by rw [List.take_add_one, hx]; rfl
      repeat' (first | ((apply ax_c; apply gG 114; exact rfl; (intro W X hN hs; exact aA en114 rfl (mR _ r.2.1.1 r.2.1.2.1 r.2.1.2.2 x.2.1 (m2.st hs) (by omega))); (rintro _ _ _ _ ⟨a5, rfl, hf⟩; first | exact hE | exact Fresh.ext hf); rintro W X _ _ hN hs ⟨a5, rfl, hf⟩; have hs := hs.fresh hf; (try simp only [zcc] at hs); refine JX.at hs ?_)) | ((apply aU; have hset := (pP (rs3 ++ re.drop k2) k2 r (a5, r.2.1.2.1, r.2.1.2.1) hcur).trans (congrArg (encL bS) (oU rs3 re k2 (r.1, (a5, r.2.1.2.1, r.2.1.2.1), r.2.2) hk3 (by omega))); refine JL_u (by apply aP; exact cD (b := b) (o := o) (off := k2 * 3 + 1) (n := n2) (c := n2) (vs := [.slice a5 r.2.1.2.1 r.2.1.2.1]) hs rfl rfl rfl rfl (by simp [Value.oneCell']) (by show k2 * 3 + 1 + 1 ≤ n2 * 3; omega)) rfl ?_; rintro _ _ ⟨hs, hF⟩; rw [hset] at hs)) | (apply aH) | ((first | (apply aC) | (apply JX_f; exact rfl; intro W X hs)); (first | (apply aT; exact iH (b := b) (o := o) (off := k2 * 3) (n := n2) (c := n2) hs rfl rfl hld aI) | exact zop); first | (exact rfl; exact rfl) | exact rfl) | (apply aQ) | (apply aB) | (apply aN) | (apply aW) | (apply aV) | (apply aF (t := 6); refine JL_o (by apply aR; exact aJ hs) rfl rfl ?_; rintro _ _ ⟨b6, rfl, hb6, hs, hE⟩) | (apply aU; refine JL_u (by apply aP; exact aK hs rfl rfl rfl) rfl ?_; rintro _ _ ⟨hs, hF⟩) | (apply aG; refine aS rfl ob ?_) | (apply bV; (refine bQ (id := 10) [0, 1, 3, 0, 0, 16, 48, 127, 255, 511] [(0, 0), (1, 0), (2, 0), (3, 0), (4, 0), (5, 0), (6, 1), (7, 0), (8, 0)] [9] hs cQ (by kernel_rfl) (by kernel_rfl) (by kernel_rfl) (by kernel_rfl) (by kernel_rfl) ?_)) | (refine bU (fun W hs => ?_)) | (apply eS; case' hos => (simp only [List.map_cons, List.map_nil, List.getElem?_toArray, List.getElem?_cons_succ, List.getElem?_cons_zero]; repeat' (first | exact fS | apply eR))))
      have hs : St w NoF _ [Row a5 r.2.1.2.1 r.2.1.2.1 29 1 (mX x.2.1), Own rs3 (E.take k2), bZ (some ⟨b, o, none⟩) n2 n2 (rs3 ++ [(r.1, (a5, r.2.1.2.1, r.2.1.2.1), r.2.2)] ++ re.drop (k2 + 1)), TabN a1 n n (qs.map rawN), OwnN qs, Blk b2 (.cells #[.slice none 0 0, .slice none 0 0] 57 (0, 0)), Blk b1 (.cells #[.slice a1 n n, .slice (some ⟨b, o, none⟩) n2 n2] 57 (0, 0))] := (congrArg (fun l => St w NoF _ [Row a5 r.2.1.2.1 r.2.1.2.1 29 1 l, _, _, _, _, _, _]) (wG x.2.1)).mpr (hs.sel [0, 3, 2, 4, 5, 6, 7] (by decide))
      have hs := St.pushOwn hs mlen.symm r.1 r.2.2 (by rw [e1]; exact ok1) (by rw [e3]; exact ok2) ok3
      have hx3 : (r.1, x.2.1, r.2.2) = x := by rw [e1, e3]
      rw [hx3, ← htk] at hs
      refine ih (k2 + 1, rs3 ++ [(r.1, (a5, r.2.1.2.1, r.2.1.2.1), r.2.2)]) _ _ ⟨hs.sel [1, 0, 2, 3, 4, 5] (by decide), by simp [hk3], by dsimp only; omega⟩ (by dsimp only; omega) zss
    · have hkn2 : k2 = n2 := by omega
      rw [hkn2, List.drop_of_length_le (by omega), List.append_nil, List.take_of_length_le (by omega)] at hs2
      have hs : St w NoF w3 [_, _, _, _, _, _] := hs2
      repeat' (first | (apply aH) | ((apply aC); exact zop; first | (exact rfl; exact rfl) | exact rfl) | (apply aQ) | (apply aB) | (apply bG; refine bP rfl ?_) | (apply aU; refine JL_u (by apply aP; exact aK hs rfl rfl rfl) rfl ?_; rintro _ _ ⟨hs, hF⟩) | (apply aG; refine aZ rfl ob ?_))
      refine aM Tryz.func107 rfl (.agg' hs rfl rfl .nil) ⟨qs, rs3, a1, a3, ⟨hqm, hqo⟩, rfl, (hs.sel [2, 3, 0, 1] (by decide)).out (List.Sublist.refl _)⟩
end Go.Eng
end
section
namespace Go.Eng
open Go.Proofs
set_option linter.unusedSimpArgs false
set_option linter.unusedVariables false
abbrev kK (l : List ST) : List Int := l.map Prod.fst
theorem pG {l : List ST} (h : iZ l) : iJ (kK l) := by unfold iJ kK; rw [List.pairwise_map]; exact h
theorem oH {l : List ST} {i : Nat} {s : ST} (h : l[i]? = some s) : (kK l)[i]? = some s.1 := by rw [List.getElem?_map, h]; rfl
theorem cmpI_neg {x y : Int} : cmpI x y < 0 ↔ x < y := by
  unfold cmpI
  by_cases h : x < y
  · rw [if_pos h]; exact ⟨fun _ => h, fun _ => by omega⟩
  · rw [if_neg h]
    by_cases h2 : y < x
    · rw [if_pos h2]; exact ⟨fun h => by omega, fun h => by omega⟩
    · rw [if_neg h2]; exact ⟨fun h => by omega, fun h => by omega⟩
theorem cmpI_eq {x y : Int} : cmpI x y = 0 ↔ x = y := ⟨uQ, fun h => by rw [h]; exact uR y⟩
theorem cut_wiS {l : List ST} {s : ST} {i : Nat} (h : CutI (kK l) s.1 i) (hn : s.1 ∉ kK l) : l.take i ++ [s] ++ l.drop i = wiS l s := by
  unfold wiS
  have hlo : ∀ j x, l[j]? = some x → j < i → x.1 < s.1 := fun j x hx hj => h.lo j x.1 (oH hx) hj
  have hhi : ∀ j x, l[j]? = some x → i ≤ j → s.1 < x.1 := fun j x hx hj => by
    have h1 := h.hi j x.1 (oH hx) hj
    have h2 : x.1 ≠ s.1 := fun e => hn (e ▸ List.mem_map_of_mem (List.mem_of_getElem? hx))
    omega
  have e1 : l.take i = l.filter (fun x => decide (x.1 < s.1)) := by
    conv => rhs; rw [← List.take_append_drop i l]
    rw [List.filter_append, List.filter_eq_self.2, List.filter_eq_nil_iff.2, List.append_nil]
    · intro x hx
      obtain ⟨j, hj⟩ := List.mem_iff_getElem?.1 hx
      rw [List.getElem?_drop] at hj
      have := hhi _ x hj (by omega)
      simp; omega
    · intro x hx
      obtain ⟨j, hj⟩ := List.mem_iff_getElem?.1 hx
      have hji : j < i := by have := (List.getElem?_eq_some_iff.1 hj).1; rw [List.length_take] at this; omega
      rw [List.getElem?_take_of_lt hji] at hj
      exact decide_eq_true (hlo _ x hj hji)
  have e2 : l.drop i = l.filter (fun x => decide (s.1 < x.1)) := by
    conv => rhs; rw [← List.take_append_drop i l]
    rw [List.filter_append, List.filter_eq_nil_iff.2, List.filter_eq_self.2, List.nil_append]
    · intro x hx
      obtain ⟨j, hj⟩ := List.mem_iff_getElem?.1 hx
      rw [List.getElem?_drop] at hj
      exact decide_eq_true (hhi _ x hj (by omega))
    · intro x hx
      obtain ⟨j, hj⟩ := List.mem_iff_getElem?.1 hx
      have hji : j < i := by have := (List.getElem?_eq_some_iff.1 hj).1; rw [List.length_take] at this; omega
      rw [List.getElem?_take_of_lt hji] at hj
      have := hlo _ x hj hji
      simp; omega
  rw [← e1, ← e2, List.append_assoc]; rfl
theorem yF {xs : List ST} {s : ST} {i : Nat} : (encL cT xs).take (i * 2) ++ cT s ++ (encL cT xs).drop (i * 2) = encL cT (xs.take i ++ [s] ++ xs.drop i) := by
  have e1 : encL cT (xs.take i) = (encL cT xs).take (i * 2) := iE (d := dStp) xs i
  have e2 : encL cT (xs.drop i) = (encL cT xs).drop (i * 2) := mO (d := dStp) xs i
  rw [fL, fL, e1, e2]
  simp [encL]
attribute [local irreducible] Hold J JL JD JX JXat OpR OpG Ret RetV Is Blk Row
set_option maxRecDepth 100000
set_option maxHeartbeats 1000000
theorem bsT_r (w : World) (a : Option Addr) (n c : Nat) (l : List ST) (x : ST) (h : Sl dStp All w a n c l) (hx : okT x) (hr : iZ l) (hn : n ≤ 1000000) :
    Ret Tryz.prog 171 #[.slice a n c, .agg (cT x).toArray, .func (.func 172) #[] #[]] w fun v w' => ∃ i : Nat, CutI (kK l) x.1 i ∧ v = .tuple #[.int .i64 i, .bool (decide (x.1 ∈ kK l))] ∧ Ext w w' := by
  refine bI (l := [_, _, _]) Tryz.func171 rfl Tryz.ntmps171 (by simp) ?_
  have hs := St.init w
  have hl := h.len
  have hlo := mB h
  have hlk : (kK l).length = n := by rw [List.length_map]; exact hl
  have hmono : ∀ (p q : Nat) (u v : Int), (kK l)[p]? = some u → (kK l)[q]? = some v → p < q → u < v := fun p q u v hu hv hpq => by
    have := List.pairwise_iff_getElem.1 (pG hr) p q (List.getElem?_eq_some_iff.1 hu).1 (List.getElem?_eq_some_iff.1 hv).1 hpq
    rwa [(List.getElem?_eq_some_iff.1 hu).2, (List.getElem?_eq_some_iff.1 hv).2] at this
  repeat' (first | (apply aH) | ((apply aC); exact zop; first | (exact rfl; exact rfl) | exact rfl) | (apply aQ) | (apply aB) | (apply aN) | (apply aF (t := 4); refine JL_o (by apply bN; exact bC hs rfl) rfl rfl ?_; rintro _ _ ⟨b4, rfl, hb4, hs, hE⟩))
  refine bT (α := Nat × Nat) [(0, _), (2, _), (4, _), (8, _)] (fun g => [(9, .int .i64 g.1), (10, .int .i64 g.2)]) (fun g w' => St w NoF w' [Blk b4 (.cells #[.int .u64 x.1, .int .i64 x.2] 93 (0, 0))] ∧ g.1 ≤ g.2 ∧ g.2 ≤ n ∧ (∀ j y, (kK l)[j]? = some y → j < g.1 → y < x.1) ∧ (∀ j y, (kK l)[j]? = some y → g.2 ≤ j → x.1 ≤ y)) (fun g => g.2 - g.1) (0, n) ⟨hs, Nat.zero_le _, Nat.le_refl _, (fun j y _ hj => absurd hj (Nat.not_lt_zero _)), (fun j y hy hj => by have := (List.getElem?_eq_some_iff.1 hy).1; dsimp only at hj; omega)⟩ zss ?_
  rintro ⟨i, j⟩ w2 ⟨hs1, hij, hjn, hlo_, hhi⟩ ih
  dsimp only at hs1 hij hjn hlo_ hhi ih ⊢
  by_cases hlt : i < j
  · obtain ⟨p, o, rfl⟩ := h.sl.addr (by omega)
    have hs : St w NoF w2 [_] := hs1
    obtain ⟨m, hm_⟩ : ∃ m, m = (i + j) / 2 := ⟨_, rfl⟩
    have hmi : i ≤ m := by omega
    have hmj : m < j := by omega
    have hmv : ((i : Int) + (j : Int)) / 2 = (m : Int) := by omega
    have hy : l[m]? = some (l[m]'(by omega)) := List.getElem?_eq_getElem (by omega)
    obtain ⟨y, hyd⟩ : ∃ y, y = l[m]'(by omega) := ⟨_, rfl⟩
    rw [← hyd] at hy
    have hyo := hlo y (List.mem_of_getElem? hy)
    have hky := oH hy
    obtain ⟨cc, hcc⟩ : ∃ cc, cc = cmpI y.1 x.1 := ⟨_, rfl⟩
    by_cases hc : cc < 0
    · have hyx : y.1 < x.1 := cmpI_neg.1 (hcc ▸ hc)
      repeat' (first | ((apply ax_c; apply JX_c (t := 30); exact rfl; (intro W X hN hs; exact bX rfl rfl (Ret.value (cap := #[]) lL (dM _ y x hyo hx))); (rintro _ _ _ _ ⟨rfl, hE⟩; first | exact Ext.rl hE | exact Ext.rl (Fresh.ext hf)); exact rfl; rintro W X _ _ hN hs ⟨rfl, hE⟩; rw [← hcc]; have hs := hs.ext hE; (try simp only [zcc] at hs); refine JX.at hs ?_)) | (apply aH) | ((first | (apply aC) | (apply JX_f; exact rfl; intro W X hs)); (first | (apply aT; exact aO (i := m) (h.st hs) hy rfl rfl aI) | (apply cI; exact nM (n := 1) rfl rfl (by decide) rfl (by rw [show ((i : Int) + (j : Int)) / 2 ^ 1 = (m : Int) from hmv]; exact aI)) | exact zop); first | (exact rfl; exact rfl) | exact rfl) | (apply aQ) | (apply aB) | (apply aN) | (apply aW) | (apply aV) | (apply aG; refine aS rfl ob ?_) | (apply bV; (refine bQ (id := 5) [0, 0, 0, 6, 14, 0, 63, 127] [(0, 0), (1, 0), (2, 0), (3, 0), (4, 0), (5, 0), (6, 1), (7, 0)] [] hs cQ (by kernel_rfl) (by kernel_rfl) (by kernel_rfl) (by kernel_rfl) (by kernel_rfl) ?_)) | (refine bU (fun W hs => ?_)) | (apply cB))
      refine ih (m + 1, j) _ _ ⟨hs, by show m + 1 ≤ j; omega, hjn, fun q u hu hq => ?_, hhi⟩ (by show j - (m + 1) < j - i; omega) zss
      by_cases e : q = m
      · subst e; rw [hky] at hu; cases hu; exact hyx
      · have := hmono q m u y.1 hu hky (by dsimp only at hq; omega); omega
    · have hyx : ¬ y.1 < x.1 := fun h => hc (hcc ▸ cmpI_neg.2 h)
      repeat' (first | ((apply ax_c; apply JX_c (t := 30); exact rfl; (intro W X hN hs; exact bX rfl rfl (Ret.value (cap := #[]) lL (dM _ y x hyo hx))); (rintro _ _ _ _ ⟨rfl, hE⟩; first | exact Ext.rl hE | exact Ext.rl (Fresh.ext hf)); exact rfl; rintro W X _ _ hN hs ⟨rfl, hE⟩; rw [← hcc]; have hs := hs.ext hE; (try simp only [zcc] at hs); refine JX.at hs ?_)) | (apply aH) | ((first | (apply aC) | (apply JX_f; exact rfl; intro W X hs)); (first | (apply aT; exact aO (i := m) (h.st hs) hy rfl rfl aI) | (apply cI; exact nM (n := 1) rfl rfl (by decide) rfl (by rw [show ((i : Int) + (j : Int)) / 2 ^ 1 = (m : Int) from hmv]; exact aI)) | exact zop); first | (exact rfl; exact rfl) | exact rfl) | (apply aQ) | (apply aB) | (apply aN) | (apply aW) | (apply aV) | (apply aG; first | refine aS rfl ob ?_ | refine aZ rfl ob ?_) | (apply bV; (refine bQ (id := 5) [0, 0, 0, 6, 14, 0, 63, 127] [(0, 0), (1, 0), (2, 0), (3, 0), (4, 0), (5, 0), (6, 1), (7, 0)] [] hs cQ (by kernel_rfl) (by kernel_rfl) (by kernel_rfl) (by kernel_rfl) (by kernel_rfl) ?_)) | (refine bU (fun W hs => ?_)) | (apply cB))
      refine ih (i, m) _ _ ⟨hs, hmi, by show m ≤ n; omega, hlo_, fun q u hu hq => ?_⟩ (by show m - i < j - i; omega) zss
      by_cases e : q = m
      · subst e; rw [hky] at hu; cases hu; omega
      · have := hmono m q y.1 u hky hu (by dsimp only at hq; omega); omega
  · have hs : St w NoF w2 [_] := hs1
    have hij2 : i = j := by omega
    subst hij2
    have hcut : CutI (kK l) x.1 i := ⟨by omega, hlo_, hhi⟩
    by_cases hin : i < n
    · obtain ⟨p, o, rfl⟩ := h.sl.addr (by omega)
      have hs : St w NoF w2 [_] := hs1
      have hy : l[i]? = some (l[i]'(by omega)) := List.getElem?_eq_getElem (by omega)
      obtain ⟨y, hyd⟩ : ∃ y, y = l[i]'(by omega) := ⟨_, rfl⟩
      rw [← hyd] at hy
      have hyo := hlo y (List.mem_of_getElem? hy)
      have hky := oH hy
      obtain ⟨cc, hcc⟩ : ∃ cc, cc = cmpI y.1 x.1 := ⟨_, rfl⟩
      have hmd : decide (x.1 ∈ kK l) = decide (cc = 0) := by
        rw [decide_eq_decide, hcc, cmpI_eq, hcut.there (pG hr), hky]
        exact ⟨fun h => Option.some.inj h, fun h => by rw [h]⟩
      rw [hmd]
      repeat' (first | ((apply ax_c; apply lT (t := 46); exact rfl; exact rfl; exact gb; (intro W X hN hs; exact bX rfl rfl (Ret.value (cap := #[]) lL (dM _ y x hyo hx))); (rintro _ _ _ _ ⟨rfl, hE⟩; first | exact Ext.rl hE | exact Ext.rl (Fresh.ext hf)); exact rfl; rintro W X _ _ hN hs ⟨rfl, hE⟩; rw [← hcc]; have hs := hs.ext hE; (try simp only [zcc] at hs); refine JX.at hs ?_)) | (apply aH) | ((first | (apply aC) | (apply JX_f; exact rfl; intro W X hs) | (apply dB; exact rfl; exact rfl; exact gb; intro W X hs)); (first | (apply aT; exact aO (i := i) (h.st hs) hy rfl rfl aI) | exact zop); first | (exact rfl; exact rfl) | exact rfl) | (apply aQ) | (apply aB) | (apply bG; refine bP rfl ?_) | (apply aG; refine aZ rfl ob ?_) | (apply bV; (refine bQ (id := 8) [0, 0, 0, 6, 14, 30, 30, 30, 222, 478, 30, 2046, 4094, 8190, 4095, 32767] [(0, 0), (1, 0), (2, 0), (3, 0), (4, 0), (5, 0), (6, 0), (7, 0), (8, 0), (9, 0), (10, 0), (11, 1), (12, 0), (13, 0), (14, 0), (15, 0)] [] hs cQ (by kernel_rfl) (by kernel_rfl) (by kernel_rfl) (by kernel_rfl) (by kernel_rfl) ?_)) | (refine bU (fun W hs => ?_)) | (apply cB))
      refine aM Tryz.func171 rfl (.tmp rfl (.tmp rfl .nil)) ⟨i, hcut, rfl, hs.frm.ext⟩
    · have hmd : decide (x.1 ∈ kK l) = false := decide_eq_false (fun hm => by have := (List.getElem?_eq_some_iff.1 ((hcut.there (pG hr)).1 hm)).1; omega)
      rw [hmd]
      repeat' (first | (apply aH) | ((first | (apply aC) | (apply JX_f; exact rfl; intro W X hs)); exact zop; first | (exact rfl; exact rfl) | exact rfl) | (apply aQ) | (apply aB) | (apply bG; refine bP rfl ?_) | (apply aG; refine aZ rfl ob ?_) | (apply bV; (refine bQ (id := 8) [0, 0, 0, 6, 14, 30, 30, 30, 222, 478, 30, 2046, 4094, 8190, 4095, 32767] [(0, 0), (1, 0), (2, 0), (3, 0), (4, 0), (5, 0), (6, 0), (7, 0), (8, 0), (9, 0), (10, 0), (11, 1), (12, 0), (13, 0), (14, 0), (15, 0)] [] hs cQ (by kernel_rfl) (by kernel_rfl) (by kernel_rfl) (by kernel_rfl) (by kernel_rfl) ?_)) | (refine bU (fun W hs => ?_)) | (refine cM rfl rfl gb rfl ?_) | (refine cU rfl rfl gb rfl ?_) | (apply cB))
      refine aM Tryz.func171 rfl (.tmp rfl (.tmp rfl .nil)) ⟨i, hcut, rfl, hs.frm.ext⟩
-- WSPL 170 2 : [1] [0]
theorem gput_r (w : World) (b o n c q : Nat) (Y : List Value) (ra : Option Addr) (rn rc : Nat) (row : List ST) (id to : Int) (bid : Nat)
    (hh : Held w [Row (some ⟨b, o, none⟩) n c 79 4 Y, RowT ra rn rc row]) (hq : Y[q]? = some (.slice ra rn rc)) (hq4 : q < n * 4) (hlen : row.length = rn) (hok : ∀ s ∈ row, okT s) (hid : okId id) (hto : inK .i64 to) (hrise : iZ row) (hsame : ∀ s ∈ row, s.1 = id → s = (id, to)) (hrn : rn ≤ 1000000)
    (hbid : w.heap[bid]? = some (.cells #[.int .u64 id] 29 (0, 0))) (hsep : ∀ k, (Star [Row (some ⟨b, o, none⟩) n c 79 4 Y, RowT ra rn rc row]).foot k → k ≠ bid) :
    Ret Tryz.prog 170 #[.pointer (some ⟨b, o + q, none⟩), .int .i64 to, ptr bid] w fun _ w' => ∃ (ra' : Option Addr) (rc' : Nat), Turn w [Row (some ⟨b, o, none⟩) n c 79 4 Y, RowT ra rn rc row] w' [Row (some ⟨b, o, none⟩) n c 79 4 (bR Y q [.slice ra' (wiS row (id, to)).length rc']), RowT ra' (wiS row (id, to)).length rc' (wiS row (id, to))] := by
  refine bI (l := [_, _, _]) Tryz.func170 rfl Tryz.ntmps170 (by simp) ?_
  have hs := hh.st
  have hYl : Y.length = n * 4 := (hs.row (some ⟨b, o, none⟩) n c).len
  have hbF : ¬ (Star [Row (some ⟨b, o, none⟩) n c 79 4 Y, RowT ra rn rc row]).foot bid := fun h => hsep _ h rfl
  have h0k : okT (id, 0) := ⟨hid, by show inK .i64 0; unfold inK; simp only [IntKind.min, IntKind.max, IntKind.bits, IntKind.signed]; omega⟩
  obtain ⟨mb, hmb⟩ : ∃ m, decide (id ∈ kK row) = m := ⟨_, rfl⟩
  cases mb with
  | true =>
    have hm := of_decide_eq_true hmb
    have hin : (id, to) ∈ row := by
      obtain ⟨s, h1, h2⟩ := List.mem_map.1 hm
      exact hsame s h1 h2 ▸ h1
    have hw : wiS row (id, to) = row := wiS_self hrise hin
    have hY : bR Y q [.slice ra rn rc] = Y := by
      rw [xS _ _ _ (by omega)]
      apply List.ext_getElem?
      intro i
      by_cases e : i = q
      · rw [e, List.getElem?_set_self (by omega), hq]
      · rw [List.getElem?_set_ne (by omega)]
    rw [hw, hlen]
    repeat' (first | ((apply ax_c; apply gG 171; exact rfl; (intro W X hN hs; exact aA en171 rfl (bsT_r _ ra rn rc row (id, 0) (slT hs zmm hok) h0k hrise hrn)); (rintro _ _ _ _ ⟨i, hcut, rfl, hE⟩; first | exact hE | exact Fresh.ext hf); rintro W X _ _ hN hs ⟨i, hcut, rfl, hE⟩; rw [hmb]; have hs := hs.ext hE; (try simp only [zcc] at hs); refine JX.at hs ?_)) | (apply aH) | ((first | (apply aC) | (apply JX_f; exact rfl; intro W X hs)); (first | (apply aT; first | exact dG (b := b) (o := o) (off := q) (n := n) (c := c) hs rfl hq aI | exact bL (hs.keep_cell (cA (off := 0) hbid rfl) hbF) rfl aI) | exact zop); first | (exact rfl; exact rfl) | exact rfl) | (apply aQ) | (apply aB) | (apply aV) | (apply aG; refine bD rfl gb ?_) | (apply bV; (refine bQ (id := 0) [0, 1, 3, 0, 8, 31, 63, 127, 127, 255, 1023] [(0, 0), (1, 0), (2, 0), (3, 0), (4, 0), (5, 1), (6, 0), (7, 0), (8, 0), (9, 0), (10, 0)] [] hs cQ (by kernel_rfl) (by kernel_rfl) (by kernel_rfl) (by kernel_rfl) (by kernel_rfl) ?_)) | (refine bU (fun W hs => ?_)) | (apply cB))
    refine eI Tryz.func170 rfl .nil ⟨ra, rc, by rw [hY]; exact St.turned (M := []) hs⟩
  | false =>
    have hm := of_decide_eq_false hmb
    have hwl : ∀ i, CutI (kK row) id i → (encL cT row).take (i * 2) ++ [.int .u64 id, .int .i64 to] ++ (encL cT row).drop (i * 2) = encL cT (wiS row (id, to)) ∧ rn + 1 = (wiS row (id, to)).length ∧ i ≤ rn := fun i hc => by
      have h1 := cut_wiS (s := (id, to)) hc hm
      have h2 : i ≤ rn := by have := hc.le; rw [List.length_map, hlen] at this; exact this
      refine ⟨by rw [← h1, ← yF], ?_, h2⟩
      rw [← h1, List.length_append, List.length_append, List.length_take, List.length_drop, List.length_singleton]; omega
    repeat' (first | ((apply ax_c; apply gG 171; exact rfl; (intro W X hN hs; exact aA en171 rfl (bsT_r _ ra rn rc row (id, 0) (slT hs zmm hok) h0k hrise hrn)); (rintro _ _ _ _ ⟨i, hcut, rfl, hE⟩; first | exact hE | exact Fresh.ext hf); rintro W X _ _ hN hs ⟨i, hcut, rfl, hE⟩; rw [hmb]; have hs := hs.ext hE; (try simp only [zcc] at hs); refine JX.at hs ?_)) | (apply aH) | ((first | (apply aC) | (apply JX_f; exact rfl; intro W X hs) | (apply aCi; exact rfl; intro W hs)); (first | (apply aT; first | exact dG (b := b) (o := o) (off := q) (n := n) (c := c) hs rfl hq aI | exact bL (hs.keep_cell (cA (off := 0) hbid rfl) hbF) rfl aI) | exact zop); first | (exact rfl; exact rfl) | exact rfl) | (apply aQ) | (apply aB) | (apply ax_n; refine JX_n (t := 26) rfl (fun W L hs => by apply bJ; exact bF hs rfl (by omega) rfl) rfl ?_) | (apply ax_k; (first | refine JX_k (t := 26) ?_ | refine JX_k2 (t := 26) rfl ?_); intro b26) | (apply aG; refine bB rfl gb ?_) | (apply bV; first | (refine bQ (id := 0) [0, 1, 3, 0, 8, 31, 63, 127, 127, 255, 1023] [(0, 0), (1, 0), (2, 0), (3, 0), (4, 0), (5, 1), (6, 0), (7, 0), (8, 0), (9, 0), (10, 0)] [] hs cQ (by kernel_rfl) (by kernel_rfl) (by kernel_rfl) (by kernel_rfl) (by kernel_rfl) ?_) | (refine aCf (id := 2) [0, 0, 2, 6, 0, 0, 0, 96, 224, 510, 1023, 2047] [(0, 0), (1, 0), (2, 0), (3, 0), (4, 0), (5, 0), (6, 0), (7, 0), (8, 2), (8, 3), (9, 1), (10, 0)] [11] [_] [_] (show St _ _ _ [_, _] from hs.sel [1, 0] (by decide)) rfl cQ (by kernel_rfl) (by kernel_rfl) (by kernel_rfl) (by kernel_rfl) (by kernel_rfl) ?_; intro ZZ hZZ)) | (refine bU (fun W hs => ?_)) | (apply cB))
    have hYq : ∀ (ra' : Option Addr) (rn' rc' : Nat), q + [Value.slice ra' rn' rc'].length ≤ n * 4 := fun _ _ _ => by show q + 1 ≤ n * 4; omega
    obtain ⟨hwc, hwn, hile⟩ := hwl i hcut
    repeat' (first | ((apply ax_c; apply JX_c (t := 27); exact rfl; (intro W X hN hs; have hs2 : St w (Star [Row (some ⟨b, o, none⟩) n c 79 4 Y, RowT ra rn rc row]).foot W ([RowT ra rn rc row, Blk b26 (.cells #[.int .u64 id, .int .i64 to] 93 (0, 0))] ++ [Row (some ⟨b, o, none⟩) n c 79 4 Y, X]) := hs.sel [2, 1, 3, 0] (by decide); exact iI (aA en173 rfl (insT_r _ ra rn rc i (encL cT row) (.int .u64 id) (.int .i64 to) b26 (St.held (A := [_, _]) hs2) hile hrn (one_encT row) (fun u hu => by simp only [List.mem_cons, List.not_mem_nil, or_false] at hu; rcases hu with rfl | rfl <;> rfl))) (St.zfoot (A := [_, _]) (C0 := [_]) (hs2.sub (List.Sublist.append_left (.cons_cons _ (List.nil_sublist _)) _)) hZZ)); (rintro _ _ _ _ ⟨⟨a4, c4, rfl, ht⟩, hz⟩; exact Frm.rlZ ht.frm hz); exact rfl; rintro W X _ _ hN hs ⟨⟨a4, c4, rfl, ht⟩, hz⟩; have hs2 : St w (Star [Row (some ⟨b, o, none⟩) n c 79 4 Y, RowT ra rn rc row]).foot W ([RowT ra rn rc row, Blk b26 (.cells #[.int .u64 id, .int .i64 to] 93 (0, 0))] ++ [Row (some ⟨b, o, none⟩) n c 79 4 Y, X]) := hs.sel [2, 1, 3, 0] (by decide); have hs := St.take (A := [_, _]) (A' := [_]) hs2 ht; rw [hwc, hwn] at hs; simp only [zcc] at hs; refine JX.at hs ?_)) | ((apply aCi; exact rfl; intro W hs); (apply pV; exact nX rfl aI); first | (exact rfl; exact rfl) | exact rfl) | (refine bU (fun W hs => ?_)) | (apply eS; case' hos => (simp only [List.map_cons, List.map_nil, List.getElem?_toArray, List.getElem?_cons_succ, List.getElem?_cons_zero]; repeat' (first | exact fS | apply eR))))
    apply aU
    refine JL_u (by apply aP; exact cD (b := b) (o := o) (off := q) (n := n) (c := c) (vs := [.slice a4 (rn + 1) c4]) hs rfl rfl rfl rfl (by simp [Value.oneCell']) (by show q + 1 ≤ n * 4; omega)) rfl ?_
    rintro _ _ ⟨hs, hF⟩
    repeat' (first | (apply aH))
    rw [hwn] at hs
    refine eI Tryz.func170 rfl .nil ⟨a4, c4, St.turned (M := []) (hs.sel [1, 0] (by decide))⟩
end Go.Eng
end
section
namespace Go.Eng
open Go.Proofs
set_option linter.unusedSimpArgs false
set_option linter.unusedVariables false
theorem mP (xs : List Int) (x : Int) : encL cId xs ++ [.int .u64 x] = encL cId (xs ++ [x]) := by rw [fL]; simp [encL]
attribute [local irreducible] Hold J JL JD JX JXat OpR OpG Ret RetV Is Blk Row
set_option maxRecDepth 100000
set_option maxHeartbeats 1000000
theorem gS (w : World) (a : Option Addr) (n c : Nat) (xs : List Int) (id : Int) (h : Sl dId All w a n c xs) (hn : n ≤ 1000000) : Ret Tryz.prog 102 #[.slice a n c, .int .u64 id] w fun v w' => ∃ a' c', v = .slice a' (outT xs id).length c' ∧ Fresh w w' [RowU a' (outT xs id).length c' (outT xs id)] := by
  refine bI (l := [_, _]) Tryz.func102 rfl Tryz.ntmps102 (by simp) ?_
  have hs := St.init w
  have hl := h.len
  repeat' (first | (apply aH) | ((apply aC); exact zop; first | (exact rfl; exact rfl) | exact rfl) | (apply aQ) | (apply aB) | (apply aN))
  have hs := hs.nilRow 29 1
  refine bT (α := Nat × Nat × Option Addr × Nat) [(1, _), (8, _), (9, _)] (fun g => [(5, .slice g.2.2.1 g.2.1 g.2.2.2), (10, .int .i64 g.1)])
    (fun g w' => St w NoF w' [RowU g.2.2.1 g.2.1 g.2.2.2 (([] : List Int) ++ (xs.take g.1).filter (fun x => decide (x ≠ id)))] ∧ g.1 ≤ n ∧ g.2.1 = (([] : List Int) ++ (xs.take g.1).filter (fun x => decide (x ≠ id))).length ∧ g.2.1 ≤ (([] : List Int)).length + g.1)
    (fun g => n - g.1) (0, 0, none, 0) ⟨by dsimp only; rw [List.take_zero, List.filter_nil, List.append_nil]; exact hs.sel [0] (by decide), Nat.zero_le _, by dsimp only; rw [List.take_zero, List.filter_nil, List.append_nil]; rfl, by simp <;> omega⟩ zss ?_
  rintro ⟨k, m, a5, c5⟩ w2 ⟨hs1, hk, hml, hmk⟩ ih
  dsimp only at hs1 hk hml hmk ih ⊢
  by_cases hlt : k < n
  · obtain ⟨q, o, rfl⟩ := h.sl.addr (by omega)
    have hs : St w NoF w2 [_] := hs1
    have hx : xs[k]? = some (xs[k]'(by omega)) := List.getElem?_eq_getElem (by omega)
    obtain ⟨x, hxd⟩ : ∃ x, x = xs[k]'(by omega) := ⟨_, rfl⟩
    rw [← hxd] at hx
    have hfs := dU (fun x => decide (x ≠ id)) hx
    have hmb : m ≤ 2 * n + 1 := by first | omega | (rw [List.length_nil] at hmk; omega)
    by_cases hc : x ≠ id
    · rw [if_pos (decide_eq_true hc)] at hfs
      have hcc : encL cId (([] : List Int) ++ (xs.take k).filter (fun x => decide (x ≠ id))) ++ [.int .u64 x] = encL cId (([] : List Int) ++ (xs.take (k + 1)).filter (fun x => decide (x ≠ id))) := by rw [hfs, ← List.append_assoc]; exact mP _ x
      have hl2 : (([] : List Int) ++ (xs.take (k + 1)).filter (fun x => decide (x ≠ id))).length = m + 1 := by rw [hfs, ← List.append_assoc, List.length_append, ← hml]; rfl
      repeat' (first | ((apply aF (t := 20); refine JL_o (by apply bW; exact cF (xs := encL cId (([] : List Int) ++ (xs.take k).filter (fun x => decide (x ≠ id)))) (news := [.int .u64 x]) hs rfl rfl (lC (hs.blk (b := b19)) rfl) cJ rfl (by omega) (by unfold maxLen; omega)) rfl rfl ?_; rintro _ _ ⟨a4, c4, rfl, hs, hF, hnil⟩; rw [hcc] at hs)) | (apply aH) | ((apply aC); (first | (apply aT; exact aX (i := k) (j := 0) (h.st hs) hx rfl rfl rfl aI) | exact zop); first | (exact rfl; exact rfl) | exact rfl) | (apply aQ) | (apply aB) | (apply aN) | (apply aW) | (apply aV) | (apply aF (t := 19); refine JL_o (by apply bJ; exact bF hs rfl (by omega) rfl) rfl rfl ?_; rintro _ _ ⟨b19, rfl, hb19, hs, hE⟩) | (apply aG; refine aS rfl ob ?_))
      refine ih (k + 1, m + 1, a4, c4) _ _ ⟨hs.sel [1] (by decide), by dsimp only; omega, hl2.symm, by dsimp only; omega⟩ (by dsimp only; omega) zss
    · rw [if_neg (by rw [decide_eq_false hc]; decide), List.append_nil] at hfs
      rw [← hfs] at hml hs
      repeat' (first | (apply aH) | ((apply aC); (first | (apply aT; exact aX (i := k) (j := 0) (h.st hs) hx rfl rfl rfl aI) | exact zop); first | (exact rfl; exact rfl) | exact rfl) | (apply aQ) | (apply aB) | (apply aN) | (apply aW) | (apply aV) | (apply aG; first | refine aS rfl ob ?_ | refine aZ rfl ob ?_))
      refine ih (k + 1, m, a5, c5) _ _ ⟨hs.sel [0] (by decide), by dsimp only; omega, hml, by dsimp only; omega⟩ (by dsimp only; omega) zss
  have hs : St w NoF w2 [_] := hs1
  rw [List.take_of_length_le (by omega)] at hml hs
  rw [List.nil_append] at hml hs
  repeat' (first | (apply aH) | ((apply aC); exact zop; first | (exact rfl; exact rfl) | exact rfl) | (apply aQ) | (apply aB) | (apply bG; refine bP rfl ?_) | (apply aG; refine aZ rfl ob ?_))
  refine aM Tryz.func102 rfl (.tmp rfl .nil) ⟨a5, c5, by rw [show (outT xs id).length = m from hml.symm]; rfl, by rw [show (outT xs id).length = m from hml.symm]; exact hs.out (List.Sublist.refl _)⟩
theorem rH (w : World) (a : Option Addr) (n c : Nat) (xs : List Int) (id : Int) (h : Sl dId All w a n c xs) (hn : n ≤ 1000000) : Ret Tryz.prog 103 #[.slice a n c, .int .u64 id] w fun v w' => ∃ a' c', v = .slice a' (wiT xs id).length c' ∧ Fresh w w' [RowU a' (wiT xs id).length c' (wiT xs id)] := by
  refine bI (l := [_, _]) Tryz.func103 rfl Tryz.ntmps103 (by simp) ?_
  have hs := St.init w
  have hl := h.len
  repeat' (first | (apply aH) | ((apply aC); exact zop; first | (exact rfl; exact rfl) | exact rfl) | (apply aQ) | (apply aB) | (apply aN))
  have hs := hs.nilRow 29 1
  refine bT (α := Nat × Nat × Option Addr × Nat) [(0, _), (1, _), (10, _), (11, _)] (fun g => [(5, .slice g.2.2.1 g.2.1 g.2.2.2), (12, .int .i64 g.1)])
    (fun g w' => St w NoF w' [RowU g.2.2.1 g.2.1 g.2.2.2 (([] : List Int) ++ (xs.take g.1).filter (fun x => decide (x < id)))] ∧ g.1 ≤ n ∧ g.2.1 = (([] : List Int) ++ (xs.take g.1).filter (fun x => decide (x < id))).length ∧ g.2.1 ≤ (([] : List Int)).length + g.1)
    (fun g => n - g.1) (0, 0, none, 0) ⟨by dsimp only; rw [List.take_zero, List.filter_nil, List.append_nil]; exact hs.sel [0] (by decide), Nat.zero_le _, by dsimp only; rw [List.take_zero, List.filter_nil, List.append_nil]; rfl, by simp <;> omega⟩ zss ?_
  rintro ⟨k, m, a5, c5⟩ w2 ⟨hs1, hk, hml, hmk⟩ ih
  dsimp only at hs1 hk hml hmk ih ⊢
  by_cases hlt : k < n
  · obtain ⟨q, o, rfl⟩ := h.sl.addr (by omega)
    have hs : St w NoF w2 [_] := hs1
    have hx : xs[k]? = some (xs[k]'(by omega)) := List.getElem?_eq_getElem (by omega)
    obtain ⟨x, hxd⟩ : ∃ x, x = xs[k]'(by omega) := ⟨_, rfl⟩
    rw [← hxd] at hx
    have hfs := dU (fun x => decide (x < id)) hx
    have hmb : m ≤ 2 * n + 1 := by first | omega | (rw [List.length_nil] at hmk; omega)
    by_cases hc : x < id
    · rw [if_pos (decide_eq_true hc)] at hfs
      have hcc : encL cId (([] : List Int) ++ (xs.take k).filter (fun x => decide (x < id))) ++ [.int .u64 x] = encL cId (([] : List Int) ++ (xs.take (k + 1)).filter (fun x => decide (x < id))) := by rw [hfs, ← List.append_assoc]; exact mP _ x
      have hl2 : (([] : List Int) ++ (xs.take (k + 1)).filter (fun x => decide (x < id))).length = m + 1 := by rw [hfs, ← List.append_assoc, List.length_append, ← hml]; rfl
      repeat' (first | ((apply aF (t := 22); refine JL_o (by apply bW; exact cF (xs := encL cId (([] : List Int) ++ (xs.take k).filter (fun x => decide (x < id)))) (news := [.int .u64 x]) hs rfl rfl (lC (hs.blk (b := b21)) rfl) cJ rfl (by omega) (by unfold maxLen; omega)) rfl rfl ?_; rintro _ _ ⟨a4, c4, rfl, hs, hF, hnil⟩; rw [hcc] at hs)) | (apply aH) | ((apply aC); (first | (apply aT; exact aX (i := k) (j := 0) (h.st hs) hx rfl rfl rfl aI) | exact zop); first | (exact rfl; exact rfl) | exact rfl) | (apply aQ) | (apply aB) | (apply aN) | (apply aW) | (apply aV) | (apply aF (t := 21); refine JL_o (by apply bJ; exact bF hs rfl (by omega) rfl) rfl rfl ?_; rintro _ _ ⟨b21, rfl, hb21, hs, hE⟩) | (apply aG; refine aS rfl ob ?_))
      refine ih (k + 1, m + 1, a4, c4) _ _ ⟨hs.sel [1] (by decide), by dsimp only; omega, hl2.symm, by dsimp only; omega⟩ (by dsimp only; omega) zss
    · rw [if_neg (by rw [decide_eq_false hc]; decide), List.append_nil] at hfs
      rw [← hfs] at hml hs
      repeat' (first | (apply aH) | ((apply aC); (first | (apply aT; exact aX (i := k) (j := 0) (h.st hs) hx rfl rfl rfl aI) | exact zop); first | (exact rfl; exact rfl) | exact rfl) | (apply aQ) | (apply aB) | (apply aN) | (apply aW) | (apply aV) | (apply aG; first | refine aS rfl ob ?_ | refine aZ rfl ob ?_))
      refine ih (k + 1, m, a5, c5) _ _ ⟨hs.sel [0] (by decide), by dsimp only; omega, hml, by dsimp only; omega⟩ (by dsimp only; omega) zss
  have hs : St w NoF w2 [_] := hs1
  rw [List.take_of_length_le (by omega)] at hml hs
  rw [List.nil_append] at hml hs
  obtain ⟨PL, hPL⟩ : ∃ l, l = xs.filter (fun x => decide (x < id)) := ⟨_, rfl⟩
  rw [← hPL] at hml hs
  have hmn : m ≤ n := by rw [hml, hPL]; have := List.length_filter_le (fun x => decide (x < id)) xs; omega
  repeat' (first | ((apply aF (t := 27); refine JL_o (by apply bW; exact cF (xs := encL cId PL) (news := [.int .u64 id]) hs rfl rfl (lC (hs.blk (b := b26)) rfl) cJ rfl (by omega) (by unfold maxLen; omega)) rfl rfl ?_; rintro _ _ ⟨a6, c6, rfl, hs, hF, hnil⟩; rw [show encL cId PL ++ [.int .u64 id] = encL cId (PL ++ [id]) from mP _ id] at hs)) | (apply aH) | ((apply aC); exact zop; first | (exact rfl; exact rfl) | exact rfl) | (apply aQ) | (apply aB) | (apply aN) | (apply bG; refine bP rfl ?_) | (apply aF (t := 26); refine JL_o (by apply bJ; exact bF hs rfl (by omega) rfl) rfl rfl ?_; rintro _ _ ⟨b26, rfl, hb26, hs, hE⟩) | (apply aG; refine aZ rfl ob ?_))
  clear ih hmk hk
  have hP1 : (PL ++ [id]).length = m + 1 := by rw [List.length_append, ← hml]; rfl
  refine bT (α := Nat × Nat × Option Addr × Nat) [(1, _), (28, _), (29, _)] (fun g => [(5, .slice g.2.2.1 g.2.1 g.2.2.2), (30, .int .i64 g.1)])
    (fun g w' => St w NoF w' [RowU g.2.2.1 g.2.1 g.2.2.2 ((PL ++ [id]) ++ (xs.take g.1).filter (fun x => decide (id < x)))] ∧ g.1 ≤ n ∧ g.2.1 = ((PL ++ [id]) ++ (xs.take g.1).filter (fun x => decide (id < x))).length ∧ g.2.1 ≤ ((PL ++ [id])).length + g.1)
    (fun g => n - g.1) (0, m + 1, a6, c6) ⟨by dsimp only; rw [List.take_zero, List.filter_nil, List.append_nil]; exact hs.sel [1] (by decide), Nat.zero_le _, by dsimp only; rw [List.take_zero, List.filter_nil, List.append_nil, hP1], by simp <;> omega⟩ zss ?_
  rintro ⟨k, m, a5, c5⟩ w2 ⟨hs1, hk, hml, hmk⟩ ih
  dsimp only at hs1 hk hml hmk ih ⊢
  by_cases hlt : k < n
  · obtain ⟨q, o, rfl⟩ := h.sl.addr (by omega)
    have hs : St w NoF w2 [_] := hs1
    have hx : xs[k]? = some (xs[k]'(by omega)) := List.getElem?_eq_getElem (by omega)
    obtain ⟨x, hxd⟩ : ∃ x, x = xs[k]'(by omega) := ⟨_, rfl⟩
    rw [← hxd] at hx
    have hfs := dU (fun x => decide (id < x)) hx
    have hmb : m ≤ 2 * n + 1 := by first | omega | (rw [List.length_nil] at hmk; omega)
    by_cases hc : id < x
    · rw [if_pos (decide_eq_true hc)] at hfs
      have hcc : encL cId ((PL ++ [id]) ++ (xs.take k).filter (fun x => decide (id < x))) ++ [.int .u64 x] = encL cId ((PL ++ [id]) ++ (xs.take (k + 1)).filter (fun x => decide (id < x))) := by rw [hfs, ← List.append_assoc]; exact mP _ x
      have hl2 : ((PL ++ [id]) ++ (xs.take (k + 1)).filter (fun x => decide (id < x))).length = m + 1 := by rw [hfs, ← List.append_assoc, List.length_append, ← hml]; rfl
      repeat' (first | ((apply aF (t := 40); refine JL_o (by apply bW; exact cF (xs := encL cId ((PL ++ [id]) ++ (xs.take k).filter (fun x => decide (id < x)))) (news := [.int .u64 x]) hs rfl rfl (lC (hs.blk (b := b39)) rfl) cJ rfl (by omega) (by unfold maxLen; omega)) rfl rfl ?_; rintro _ _ ⟨a4, c4, rfl, hs, hF, hnil⟩; rw [hcc] at hs)) | (apply aH) | ((apply aC); (first | (apply aT; exact aX (i := k) (j := 0) (h.st hs) hx rfl rfl rfl aI) | exact zop); first | (exact rfl; exact rfl) | exact rfl) | (apply aQ) | (apply aB) | (apply aN) | (apply aW) | (apply aV) | (apply aF (t := 39); refine JL_o (by apply bJ; exact bF hs rfl (by omega) rfl) rfl rfl ?_; rintro _ _ ⟨b39, rfl, hb39, hs, hE⟩) | (apply aG; refine aS rfl ob ?_))
      refine ih (k + 1, m + 1, a4, c4) _ _ ⟨hs.sel [1] (by decide), by dsimp only; omega, hl2.symm, by dsimp only; omega⟩ (by dsimp only; omega) zss
    · rw [if_neg (by rw [decide_eq_false hc]; decide), List.append_nil] at hfs
      rw [← hfs] at hml hs
      repeat' (first | (apply aH) | ((apply aC); (first | (apply aT; exact aX (i := k) (j := 0) (h.st hs) hx rfl rfl rfl aI) | exact zop); first | (exact rfl; exact rfl) | exact rfl) | (apply aQ) | (apply aB) | (apply aN) | (apply aW) | (apply aV) | (apply aG; first | refine aS rfl ob ?_ | refine aZ rfl ob ?_))
      refine ih (k + 1, m, a5, c5) _ _ ⟨hs.sel [0] (by decide), by dsimp only; omega, hml, by dsimp only; omega⟩ (by dsimp only; omega) zss
  have hs : St w NoF w2 [_] := hs1
  rw [List.take_of_length_le (by omega)] at hml hs
  have hw : wiT xs id = PL ++ [id] ++ xs.filter (fun x => decide (id < x)) := by rw [hPL, List.append_assoc]; rfl
  rw [← hw] at hml hs
  repeat' (first | (apply aH) | ((apply aC); exact zop; first | (exact rfl; exact rfl) | exact rfl) | (apply aQ) | (apply aB) | (apply bG; refine bP rfl ?_) | (apply aG; refine aZ rfl ob ?_))
  refine aM Tryz.func103 rfl (.tmp rfl .nil) ⟨a5, c5, by rw [hml]; rfl, by rw [← hml]; exact hs.out (List.Sublist.refl _)⟩
theorem xF (w : World) (a : Option Addr) (n c : Nat) (xs : List ST) (q0 : Int) (h : Sl dStp All w a n c xs) (hn : n ≤ 1000000) : Ret Tryz.prog 110 #[.slice a n c, .int .i64 q0] w fun v w' => ∃ a' c', v = .slice a' (cL xs q0).length c' ∧ Fresh w w' [RowT a' (cL xs q0).length c' (cL xs q0)] := by
  refine bI (l := [_, _]) Tryz.func110 rfl Tryz.ntmps110 (by simp) ?_
  have hs := St.init w
  have hl := h.len
  repeat' (first | (apply aH) | ((apply aC); exact zop; first | (exact rfl; exact rfl) | exact rfl) | (apply aQ) | (apply aB) | (apply aN))
  have hs := hs.nilRow 93 2
  refine bT (α := Nat × Nat × Option Addr × Nat) [(1, _), (8, _), (9, _)] (fun g => [(5, .slice g.2.2.1 g.2.1 g.2.2.2), (10, .int .i64 g.1)])
    (fun g w' => St w NoF w' [RowT g.2.2.1 g.2.1 g.2.2.2 (([] : List ST) ++ (xs.take g.1).filter (fun x => !decide (x.2 = q0)))] ∧ g.1 ≤ n ∧ g.2.1 = (([] : List ST) ++ (xs.take g.1).filter (fun x => !decide (x.2 = q0))).length ∧ g.2.1 ≤ (([] : List ST)).length + g.1)
    (fun g => n - g.1) (0, 0, none, 0) ⟨by dsimp only; rw [List.take_zero, List.filter_nil, List.append_nil]; exact hs.sel [0] (by decide), Nat.zero_le _, by dsimp only; rw [List.take_zero, List.filter_nil, List.append_nil]; rfl, by simp <;> omega⟩ zss ?_
  rintro ⟨k, m, a5, c5⟩ w2 ⟨hs1, hk, hml, hmk⟩ ih
  dsimp only at hs1 hk hml hmk ih ⊢
  by_cases hlt : k < n
  · obtain ⟨q, o, rfl⟩ := h.sl.addr (by omega)
    have hs : St w NoF w2 [_] := hs1
    have hx : xs[k]? = some (xs[k]'(by omega)) := List.getElem?_eq_getElem (by omega)
    obtain ⟨x, hxd⟩ : ∃ x, x = xs[k]'(by omega) := ⟨_, rfl⟩
    rw [← hxd] at hx
    have hfs := dU (fun x => !decide (x.2 = q0)) hx
    have hmb : m ≤ 2 * n + 1 := by first | omega | (rw [List.length_nil] at hmk; omega)
    by_cases hc : x.2 = q0
    · rw [if_neg (by rw [decide_eq_true hc]; decide), List.append_nil] at hfs
      rw [← hfs] at hml hs
      repeat' (first | (apply aH) | ((apply aC); (first | (apply aT; exact aO (i := k) (h.st hs) hx rfl rfl aI) | exact zop); first | (exact rfl; exact rfl) | exact rfl) | (apply aQ) | (apply aB) | (apply aN) | (apply aW) | (apply aV) | (apply aF (t := 7); refine JL_o (by apply aR; exact aJ hs) rfl rfl ?_; rintro _ _ ⟨b7, rfl, hb7, hs, hE⟩) | (apply aU; refine JL_u (by apply aP; exact aK hs rfl rfl rfl) rfl ?_; rintro _ _ ⟨hs, hF⟩) | (apply aG; first | refine aS rfl ob ?_ | refine aZ rfl ob ?_))
      refine ih (k + 1, m, a5, c5) _ _ ⟨hs.sel [1] (by decide), by dsimp only; omega, hml, by dsimp only; omega⟩ (by dsimp only; omega) zss
    · rw [if_pos (by rw [decide_eq_false hc]; rfl)] at hfs
      have hcc : encL cT (([] : List ST) ++ (xs.take k).filter (fun x => !decide (x.2 = q0))) ++ cT x = encL cT (([] : List ST) ++ (xs.take (k + 1)).filter (fun x => !decide (x.2 = q0))) := by rw [hfs, ← List.append_assoc]; exact mM _ x
      have hl2 : (([] : List ST) ++ (xs.take (k + 1)).filter (fun x => !decide (x.2 = q0))).length = m + 1 := by rw [hfs, ← List.append_assoc, List.length_append, ← hml]; rfl
      repeat' (first | ((apply aF (t := 21); refine JL_o (by apply bW; exact cF (xs := encL cT (([] : List ST) ++ (xs.take k).filter (fun x => !decide (x.2 = q0)))) (news := cT x) hs rfl rfl (oB (r := x) (hs.blk (b := b20))) cJ rfl (by omega) (by unfold maxLen; omega)) rfl rfl ?_; rintro _ _ ⟨a4, c4, rfl, hs, hF, hnil⟩; rw [hcc] at hs)) | (apply aH) | ((apply aC); (first | (apply aT; exact aO (i := k) (h.st hs) hx rfl rfl aI) | exact zop); first | (exact rfl; exact rfl) | exact rfl) | (apply aQ) | (apply aB) | (apply aN) | (apply aW) | (apply aV) | (apply aF (t := 7); refine JL_o (by apply aR; exact aJ hs) rfl rfl ?_; rintro _ _ ⟨b7, rfl, hb7, hs, hE⟩) | (apply aF (t := 20); refine JL_o (by apply bJ; exact bF hs rfl (by omega) rfl) rfl rfl ?_; rintro _ _ ⟨b20, rfl, hb20, hs, hE⟩) | (apply aU; refine JL_u (by apply aP; exact aK hs rfl rfl rfl) rfl ?_; rintro _ _ ⟨hs, hF⟩) | (apply aG; refine aS rfl ob ?_))
      refine ih (k + 1, m + 1, a4, c4) _ _ ⟨hs.sel [2] (by decide), by dsimp only; omega, hl2.symm, by dsimp only; omega⟩ (by dsimp only; omega) zss
  have hs : St w NoF w2 [_] := hs1
  rw [List.take_of_length_le (by omega)] at hml hs
  rw [List.nil_append] at hml hs
  repeat' (first | (apply aH) | ((apply aC); exact zop; first | (exact rfl; exact rfl) | exact rfl) | (apply aQ) | (apply aB) | (apply bG; refine bP rfl ?_) | (apply aG; refine aZ rfl ob ?_))
  refine aM Tryz.func110 rfl (.tmp rfl .nil) ⟨a5, c5, by rw [show (cL xs q0).length = m from hml.symm]; rfl, by rw [show (cL xs q0).length = m from hml.symm]; exact hs.out (List.Sublist.refl _)⟩
theorem rI (w : World) (a : Option Addr) (n c : Nat) (xs : List ST) (s : ST) (h : Sl dStp All w a n c xs) (hn : n ≤ 1000000) : Ret Tryz.prog 104 #[.slice a n c, .agg (cT s).toArray] w fun v w' => ∃ a' c', v = .slice a' (wiS xs s).length c' ∧ Fresh w w' [RowT a' (wiS xs s).length c' (wiS xs s)] := by
  refine bI (l := [_, _]) Tryz.func104 rfl Tryz.ntmps104 (by simp) ?_
  have hs := St.init w
  have hl := h.len
  repeat' (first | (apply aH) | ((apply aC); exact zop; first | (exact rfl; exact rfl) | exact rfl) | (apply aQ) | (apply aB) | (apply aN) | (apply aF (t := 3); refine JL_o (by apply bN; exact bC hs rfl) rfl rfl ?_; rintro _ _ ⟨b3, rfl, hb3, hs, hE⟩))
  have hs := hs.nilRow 93 2
  refine bT (α := Nat × Nat × Option Addr × Nat) [(0, _), (3, _), (10, _), (11, _)] (fun g => [(5, .slice g.2.2.1 g.2.1 g.2.2.2), (12, .int .i64 g.1)])
    (fun g w' => St w NoF w' [RowT g.2.2.1 g.2.1 g.2.2.2 (([] : List ST) ++ (xs.take g.1).filter (fun x => decide (x.1 < s.1))), Blk b3 (.cells #[.int .u64 s.1, .int .i64 s.2] 93 (0, 0))] ∧ g.1 ≤ n ∧ g.2.1 = (([] : List ST) ++ (xs.take g.1).filter (fun x => decide (x.1 < s.1))).length ∧ g.2.1 ≤ (([] : List ST)).length + g.1)
    (fun g => n - g.1) (0, 0, none, 0) ⟨by dsimp only; rw [List.take_zero, List.filter_nil, List.append_nil]; exact hs.sel [0, 1] (by decide), Nat.zero_le _, by dsimp only; rw [List.take_zero, List.filter_nil, List.append_nil]; rfl, by simp <;> omega⟩ zss ?_
  rintro ⟨k, m, a5, c5⟩ w2 ⟨hs1, hk, hml, hmk⟩ ih
  dsimp only at hs1 hk hml hmk ih ⊢
  by_cases hlt : k < n
  · obtain ⟨q, o, rfl⟩ := h.sl.addr (by omega)
    have hs : St w NoF w2 [_, _] := hs1
    have hx : xs[k]? = some (xs[k]'(by omega)) := List.getElem?_eq_getElem (by omega)
    obtain ⟨x, hxd⟩ : ∃ x, x = xs[k]'(by omega) := ⟨_, rfl⟩
    rw [← hxd] at hx
    have hfs := dU (fun x => decide (x.1 < s.1)) hx
    have hmb : m ≤ 2 * n + 1 := by first | omega | (rw [List.length_nil] at hmk; omega)
    by_cases hc : x.1 < s.1
    · rw [if_pos (decide_eq_true hc)] at hfs
      have hcc : encL cT (([] : List ST) ++ (xs.take k).filter (fun x => decide (x.1 < s.1))) ++ cT x = encL cT (([] : List ST) ++ (xs.take (k + 1)).filter (fun x => decide (x.1 < s.1))) := by rw [hfs, ← List.append_assoc]; exact mM _ x
      have hl2 : (([] : List ST) ++ (xs.take (k + 1)).filter (fun x => decide (x.1 < s.1))).length = m + 1 := by rw [hfs, ← List.append_assoc, List.length_append, ← hml]; rfl
      repeat' (first | ((apply aF (t := 24); refine JL_o (by apply bW; exact cF (xs := encL cT (([] : List ST) ++ (xs.take k).filter (fun x => decide (x.1 < s.1)))) (news := cT x) hs rfl rfl (oB (r := x) (hs.blk (b := b23))) cJ rfl (by omega) (by unfold maxLen; omega)) rfl rfl ?_; rintro _ _ ⟨a4, c4, rfl, hs, hF, hnil⟩; rw [hcc] at hs)) | (apply aH) | ((apply aC); (first | (apply aT; exact aO (i := k) (h.st hs) hx rfl rfl aI) | exact zop); first | (exact rfl; exact rfl) | exact rfl) | (apply aQ) | (apply aB) | (apply aN) | (apply aW) | (apply aV) | (apply aF (t := 7); refine JL_o (by apply aR; exact aJ hs) rfl rfl ?_; rintro _ _ ⟨b7, rfl, hb7, hs, hE⟩) | (apply aF (t := 23); refine JL_o (by apply bJ; exact bF hs rfl (by omega) rfl) rfl rfl ?_; rintro _ _ ⟨b23, rfl, hb23, hs, hE⟩) | (apply aU; refine JL_u (by apply aP; exact aK hs rfl rfl rfl) rfl ?_; rintro _ _ ⟨hs, hF⟩) | (apply aG; refine aS rfl ob ?_))
      refine ih (k + 1, m + 1, a4, c4) _ _ ⟨hs.sel [2, 3] (by decide), by dsimp only; omega, hl2.symm, by dsimp only; omega⟩ (by dsimp only; omega) zss
    · rw [if_neg (by rw [decide_eq_false hc]; decide), List.append_nil] at hfs
      rw [← hfs] at hml hs
      repeat' (first | (apply aH) | ((apply aC); (first | (apply aT; exact aO (i := k) (h.st hs) hx rfl rfl aI) | exact zop); first | (exact rfl; exact rfl) | exact rfl) | (apply aQ) | (apply aB) | (apply aN) | (apply aW) | (apply aV) | (apply aF (t := 7); refine JL_o (by apply aR; exact aJ hs) rfl rfl ?_; rintro _ _ ⟨b7, rfl, hb7, hs, hE⟩) | (apply aU; refine JL_u (by apply aP; exact aK hs rfl rfl rfl) rfl ?_; rintro _ _ ⟨hs, hF⟩) | (apply aG; first | refine aS rfl ob ?_ | refine aZ rfl ob ?_))
      refine ih (k + 1, m, a5, c5) _ _ ⟨hs.sel [1, 2] (by decide), by dsimp only; omega, hml, by dsimp only; omega⟩ (by dsimp only; omega) zss
  have hs : St w NoF w2 [_, _] := hs1
  rw [List.take_of_length_le (by omega)] at hml hs
  rw [List.nil_append] at hml hs
  obtain ⟨PL, hPL⟩ : ∃ l, l = xs.filter (fun x => decide (x.1 < s.1)) := ⟨_, rfl⟩
  rw [← hPL] at hml hs
  have hmn : m ≤ n := by rw [hml, hPL]; have := List.length_filter_le (fun x => decide (x.1 < s.1)) xs; omega
  repeat' (first | ((apply aF (t := 29); refine JL_o (by apply bW; exact cF (xs := encL cT PL) (news := cT s) hs rfl rfl (oB (r := s) (hs.blk (b := b28))) cJ rfl (by omega) (by unfold maxLen; omega)) rfl rfl ?_; rintro _ _ ⟨a6, c6, rfl, hs, hF, hnil⟩; rw [show encL cT PL ++ cT s = encL cT (PL ++ [s]) from mM _ s] at hs)) | (apply aH) | ((apply aC); exact zop; first | (exact rfl; exact rfl) | exact rfl) | (apply aQ) | (apply aB) | (apply aN) | (apply bG; refine bP rfl ?_) | (apply aF (t := 28); refine JL_o (by apply bJ; exact bF hs rfl (by omega) rfl) rfl rfl ?_; rintro _ _ ⟨b28, rfl, hb28, hs, hE⟩) | (apply aG; refine aZ rfl ob ?_))
  clear ih hmk hk
  have hP1 : (PL ++ [s]).length = m + 1 := by rw [List.length_append, ← hml]; rfl
  refine bT (α := Nat × Nat × Option Addr × Nat) [(3, _), (30, _), (31, _)] (fun g => [(5, .slice g.2.2.1 g.2.1 g.2.2.2), (32, .int .i64 g.1)])
    (fun g w' => St w NoF w' [RowT g.2.2.1 g.2.1 g.2.2.2 ((PL ++ [s]) ++ (xs.take g.1).filter (fun x => decide (s.1 < x.1))), Blk b3 (.cells #[.int .u64 s.1, .int .i64 s.2] 93 (0, 0))] ∧ g.1 ≤ n ∧ g.2.1 = ((PL ++ [s]) ++ (xs.take g.1).filter (fun x => decide (s.1 < x.1))).length ∧ g.2.1 ≤ ((PL ++ [s])).length + g.1)
    (fun g => n - g.1) (0, m + 1, a6, c6) ⟨by dsimp only; rw [List.take_zero, List.filter_nil, List.append_nil]; exact hs.sel [1, 2] (by decide), Nat.zero_le _, by dsimp only; rw [List.take_zero, List.filter_nil, List.append_nil, hP1], by simp <;> omega⟩ zss ?_
  rintro ⟨k, m, a5, c5⟩ w2 ⟨hs1, hk, hml, hmk⟩ ih
  dsimp only at hs1 hk hml hmk ih ⊢
  by_cases hlt : k < n
  · obtain ⟨q, o, rfl⟩ := h.sl.addr (by omega)
    have hs : St w NoF w2 [_, _] := hs1
    have hx : xs[k]? = some (xs[k]'(by omega)) := List.getElem?_eq_getElem (by omega)
    obtain ⟨x, hxd⟩ : ∃ x, x = xs[k]'(by omega) := ⟨_, rfl⟩
    rw [← hxd] at hx
    have hfs := dU (fun x => decide (s.1 < x.1)) hx
    have hmb : m ≤ 2 * n + 1 := by first | omega | (rw [List.length_nil] at hmk; omega)
    by_cases hc : s.1 < x.1
    · rw [if_pos (decide_eq_true hc)] at hfs
      have hcc : encL cT ((PL ++ [s]) ++ (xs.take k).filter (fun x => decide (s.1 < x.1))) ++ cT x = encL cT ((PL ++ [s]) ++ (xs.take (k + 1)).filter (fun x => decide (s.1 < x.1))) := by rw [hfs, ← List.append_assoc]; exact mM _ x
      have hl2 : ((PL ++ [s]) ++ (xs.take (k + 1)).filter (fun x => decide (s.1 < x.1))).length = m + 1 := by rw [hfs, ← List.append_assoc, List.length_append, ← hml]; rfl
      repeat' (first | ((apply aF (t := 44); refine JL_o (by apply bW; exact cF (xs := encL cT ((PL ++ [s]) ++ (xs.take k).filter (fun x => decide (s.1 < x.1)))) (news := cT x) hs rfl rfl (oB (r := x) (hs.blk (b := b43))) cJ rfl (by omega) (by unfold maxLen; omega)) rfl rfl ?_; rintro _ _ ⟨a4, c4, rfl, hs, hF, hnil⟩; rw [hcc] at hs)) | (apply aH) | ((apply aC); (first | (apply aT; exact aO (i := k) (h.st hs) hx rfl rfl aI) | exact zop); first | (exact rfl; exact rfl) | exact rfl) | (apply aQ) | (apply aB) | (apply aN) | (apply aW) | (apply aV) | (apply aF (t := 9); refine JL_o (by apply aR; exact aJ hs) rfl rfl ?_; rintro _ _ ⟨b9, rfl, hb9, hs, hE⟩) | (apply aF (t := 43); refine JL_o (by apply bJ; exact bF hs rfl (by omega) rfl) rfl rfl ?_; rintro _ _ ⟨b43, rfl, hb43, hs, hE⟩) | (apply aU; refine JL_u (by apply aP; exact aK hs rfl rfl rfl) rfl ?_; rintro _ _ ⟨hs, hF⟩) | (apply aG; refine aS rfl ob ?_))
      refine ih (k + 1, m + 1, a4, c4) _ _ ⟨hs.sel [2, 3] (by decide), by dsimp only; omega, hl2.symm, by dsimp only; omega⟩ (by dsimp only; omega) zss
    · rw [if_neg (by rw [decide_eq_false hc]; decide), List.append_nil] at hfs
      rw [← hfs] at hml hs
      repeat' (first | (apply aH) | ((apply aC); (first | (apply aT; exact aO (i := k) (h.st hs) hx rfl rfl aI) | exact zop); first | (exact rfl; exact rfl) | exact rfl) | (apply aQ) | (apply aB) | (apply aN) | (apply aW) | (apply aV) | (apply aF (t := 9); refine JL_o (by apply aR; exact aJ hs) rfl rfl ?_; rintro _ _ ⟨b9, rfl, hb9, hs, hE⟩) | (apply aU; refine JL_u (by apply aP; exact aK hs rfl rfl rfl) rfl ?_; rintro _ _ ⟨hs, hF⟩) | (apply aG; first | refine aS rfl ob ?_ | refine aZ rfl ob ?_))
      refine ih (k + 1, m, a5, c5) _ _ ⟨hs.sel [1, 2] (by decide), by dsimp only; omega, hml, by dsimp only; omega⟩ (by dsimp only; omega) zss
  have hs : St w NoF w2 [_, _] := hs1
  rw [List.take_of_length_le (by omega)] at hml hs
  have hw : wiS xs s = PL ++ [s] ++ xs.filter (fun x => decide (s.1 < x.1)) := by rw [hPL, List.append_assoc]; rfl
  rw [← hw] at hml hs
  repeat' (first | (apply aH) | ((apply aC); exact zop; first | (exact rfl; exact rfl) | exact rfl) | (apply aQ) | (apply aB) | (apply bG; refine bP rfl ?_) | (apply aG; refine aZ rfl ob ?_))
  refine aM Tryz.func104 rfl (.tmp rfl .nil) ⟨a5, c5, by rw [hml]; rfl, by rw [← hml]; exact hs.out (.cons_cons _ (List.nil_sublist _))⟩
end Go.Eng
end
section
namespace Go.Eng
open Go.Proofs
set_option linter.unusedSimpArgs false
set_option linter.unusedVariables false
theorem fQ {R : Nat → Prop} {w : World} {r : RNd} {x : NM} (h : mNode.rel R w r x) : r.1 = x.1 ∧ Sl dId R w r.2.1.1 r.2.1.2.1 r.2.1.2.2 x.2.1 ∧ Sl dStp R w r.2.2.1.1 r.2.2.1.2.1 r.2.2.1.2.2 x.2.2.1 ∧ Sl dStp R w r.2.2.2.1 r.2.2.2.2.1 r.2.2.2.2.2 x.2.2.2 := h
theorem maxN {α : Type} {d : Ty α} {R : Nat → Prop} {w : World} {a : Option Addr} {n c : Nat} {xs : List α} (h : Sl d R w a n c xs) : n ≤ 9223372036854775807 := by have h3 := h.le; have h4 := h.cap; unfold maxLen at h4; omega
attribute [local irreducible] Hold J JL JD JX JXat OpR OpG Ret RetV Is Blk Row
set_option maxRecDepth 100000
set_option maxHeartbeats 2000000
theorem fD (w : World) (a : Option Addr) (n c : Nat) (xs : List Int) (x : Int) (h : Sl dId All w a n c xs) :
    Ret Tryz.prog 29 #[.slice a n c, .int .u64 x] w fun v w' => v = .bool (decide (x ∈ xs)) ∧ Ext w w' := by
  refine bI (l := [_, _]) Tryz.func29 rfl Tryz.ntmps29 (by simp) ?_
  have hs := St.init w
  have hl := h.len
  have hmx : n ≤ 9223372036854775807 := by have h3 := h.le; have h4 := h.cap; unfold maxLen at h4; omega
  repeat' (first | (apply aH) | ((apply aC); exact zop; first | (exact rfl; exact rfl) | exact rfl) | (apply aQ) | (apply aB) | (apply aN))
  refine bT (α := Nat) [(1, _), (7, _), (8, _)] (fun k => [(9, .int .i64 k)]) (fun k w' => St w NoF w' [] ∧ k ≤ n ∧ x ∉ xs.take k) (fun k => n - k) 0 ⟨hs, Nat.zero_le _, (by simp)⟩ zss ?_
  rintro k w2 ⟨hs1, hk, hno⟩ ih
  have hs : St w NoF w2 [] := hs1
  by_cases hlt : k < n
  · obtain ⟨p, o, rfl⟩ := h.sl.addr (by omega)
    have hs : St w NoF w2 [] := hs1
    have hx : xs[k]? = some (xs[k]'(by omega)) := List.getElem?_eq_getElem (by omega)
    obtain ⟨y, hyd⟩ : ∃ y, y = xs[k]'(by omega) := ⟨_, rfl⟩
    rw [← hyd] at hx
    by_cases hc : y = x
    · repeat' (first | (apply aH) | ((apply aC); (first | (apply aT; exact aX (i := k) (j := 0) (h.st hs) hx rfl rfl rfl aI) | exact zop); first | (exact rfl; exact rfl) | exact rfl) | (apply aQ) | (apply aB) | (apply aN) | (apply aV) | (apply aG; refine aS rfl ob ?_))
      refine aM Tryz.func29 rfl (.tmp rfl .nil) ⟨congrArg Value.bool (decide_eq_true (hc ▸ List.mem_of_getElem? hx)).symm, hs.frm.ext⟩
    · repeat' (first | (apply aH) | ((apply aC); (first | (apply aT; exact aX (i := k) (j := 0) (h.st hs) hx rfl rfl rfl aI) | exact zop); first | (exact rfl; exact rfl) | exact rfl) | (apply aQ) | (apply aB) | (apply aN) | (apply aW) | (apply aV) | (apply aG; first | refine aS rfl ob ?_ | refine aZ rfl ob ?_))
      refine ih (k + 1) _ _ ⟨hs, hlt, fun hm => ?_⟩ (by omega) zss
      rw [List.take_add_one, hx] at hm
      rcases List.mem_append.1 hm with e | e
      · exact hno e
      · have e2 : x = y := by simpa using e
        exact hc e2.symm
  · rw [List.take_of_length_le (by omega)] at hno
    repeat' (first | (apply aH) | ((apply aC); exact zop; first | (exact rfl; exact rfl) | exact rfl) | (apply aQ) | (apply aB) | (apply bG; refine bP rfl ?_) | (apply aG; refine aZ rfl ob ?_))
    refine aM Tryz.func29 rfl (.tmp rfl .nil) ⟨congrArg Value.bool (decide_eq_false hno).symm, hs.frm.ext⟩
theorem qT (w : World) (a : Option Addr) (n c : Nat) (xs : List ST) (s : ST) (h : Sl dStp All w a n c xs) :
    Ret Tryz.prog 218 #[.slice a n c, .agg (cT s).toArray] w fun v w' => v = .bool (decide (s ∈ xs)) ∧ Ext w w' := by
  refine bI (l := [_, _]) Tryz.func218 rfl Tryz.ntmps218 (by simp) ?_
  have hs := St.init w
  have hl := h.len
  have hmx := maxN h
  repeat' (first | (apply aH) | ((apply aC); exact zop; first | (exact rfl; exact rfl) | exact rfl) | (apply aQ) | (apply aB) | (apply aN) | (apply aF (t := 3); refine JL_o (by apply bN; exact bC hs rfl) rfl rfl ?_; rintro _ _ ⟨b3, rfl, hb3, hs, hE⟩))
  refine bT (α := Nat) [(3, _), (7, _), (8, _)] (fun k => [(9, .int .i64 k)]) (fun k w' => St w NoF w' [Blk b3 (.cells #[.int .u64 s.1, .int .i64 s.2] 93 (0, 0))] ∧ k ≤ n ∧ s ∉ xs.take k) (fun k => n - k) 0 ⟨hs, Nat.zero_le _, (by simp)⟩ zss ?_
  rintro k w2 ⟨hs1, hk, hno⟩ ih
  have hs : St w NoF w2 [_] := hs1
  by_cases hlt : k < n
  · obtain ⟨p, o, rfl⟩ := h.sl.addr (by omega)
    have hs : St w NoF w2 [_] := hs1
    have hx : xs[k]? = some (xs[k]'(by omega)) := List.getElem?_eq_getElem (by omega)
    obtain ⟨y, hyd⟩ : ∃ y, y = xs[k]'(by omega) := ⟨_, rfl⟩
    rw [← hyd] at hx
    by_cases hc : y.1 = s.1 ∧ y.2 = s.2
    · repeat' (first | (apply aH) | ((apply aC); (first | (apply aT; exact aO (i := k) (h.st hs) hx rfl rfl aI) | (apply cI; exact sY rfl rfl aI) | exact zop); first | (exact rfl; exact rfl) | exact rfl) | (apply aQ) | (apply aB) | (apply aN) | (apply aV) | (apply aF (t := 6); refine JL_o (by apply aR; exact aJ hs) rfl rfl ?_; rintro _ _ ⟨b6, rfl, hb6, hs, hE⟩) | (apply aU; refine JL_u (by apply aP; exact aK hs rfl rfl rfl) rfl ?_; rintro _ _ ⟨hs, hF⟩) | (apply aG; refine aS rfl ob ?_))
      refine aM Tryz.func218 rfl (.tmp rfl .nil) ⟨congrArg Value.bool (decide_eq_true (st_eq.1 hc ▸ List.mem_of_getElem? hx)).symm, hs.frm.ext⟩
    · repeat' (first | (apply aH) | ((apply aC); (first | (apply aT; exact aO (i := k) (h.st hs) hx rfl rfl aI) | (apply cI; exact sY rfl rfl aI) | exact zop); first | (exact rfl; exact rfl) | exact rfl) | (apply aQ) | (apply aB) | (apply aN) | (apply aW) | (apply aV) | (apply aF (t := 6); refine JL_o (by apply aR; exact aJ hs) rfl rfl ?_; rintro _ _ ⟨b6, rfl, hb6, hs, hE⟩) | (apply aU; refine JL_u (by apply aP; exact aK hs rfl rfl rfl) rfl ?_; rintro _ _ ⟨hs, hF⟩) | (apply aG; first | refine aS rfl ob ?_ | refine aZ rfl ob ?_))
      refine ih (k + 1) _ _ ⟨hs.sel [1] (by decide), hlt, fun hm => ?_⟩ (by omega) zss
      rw [List.take_add_one, hx] at hm
      rcases List.mem_append.1 hm with e | e
      · exact hno e
      · have e2 : s = y := by simpa using e
        exact hc (st_eq.2 e2.symm)
  · rw [List.take_of_length_le (by omega)] at hno
    repeat' (first | (apply aH) | ((apply aC); exact zop; first | (exact rfl; exact rfl) | exact rfl) | (apply aQ) | (apply aB) | (apply bG; refine bP rfl ?_) | (apply aG; refine aZ rfl ob ?_))
    refine aM Tryz.func218 rfl (.tmp rfl .nil) ⟨congrArg Value.bool (decide_eq_false hno).symm, hs.frm.ext⟩
theorem mF (w : World) (a1 a2 : Option Addr) (n1 c1 n2 c2 : Nat) (xs ys : List ST) (h1 : Sl dStp All w a1 n1 c1 xs) (h2 : Sl dStp All w a2 n2 c2 ys) :
    Ret Tryz.prog 182 #[.slice a1 n1 c1, .slice a2 n2 c2] w fun v w' => v = .bool (decide (xs = ys)) ∧ Ext w w' := by
  refine bI (l := [_, _]) Tryz.func182 rfl Tryz.ntmps182 (by simp) ?_
  have hs := St.init w
  have hl1 := h1.len
  have hl2 := h2.len
  have hmx := maxN h1
  by_cases hn : n1 = n2
  · subst hn
    repeat' (first | (apply aH) | ((apply aC); exact zop; first | (exact rfl; exact rfl) | exact rfl) | (apply aQ) | (apply aB) | (apply aN) | (apply aV) | (apply aG; refine aZ rfl ob ?_))
    refine bT (α := Nat) [(1, _), (12, _), (13, _)] (fun k => [(14, .int .i64 k)]) (fun k w' => St w NoF w' [] ∧ k ≤ n1 ∧ xs.take k = ys.take k) (fun k => n1 - k) 0 ⟨hs, by omega, by simp⟩ zss ?_
    rintro k w' ⟨hs, hk, hj⟩ ih
    by_cases hlt : k < n1
    · obtain ⟨p1, o1, rfl⟩ := h1.sl.addr (by omega)
      obtain ⟨p2, o2, rfl⟩ := h2.sl.addr (by omega)
      have hx : xs[k]? = some xs[k] := List.getElem?_eq_getElem (by omega)
      have hy : ys[k]? = some ys[k] := List.getElem?_eq_getElem (by omega)
      obtain ⟨x, hxd⟩ : ∃ x, x = xs[k] := ⟨_, rfl⟩
      obtain ⟨y, hyd⟩ : ∃ y, y = ys[k] := ⟨_, rfl⟩
      rw [← hxd] at hx
      rw [← hyd] at hy
      by_cases he : x.1 = y.1 ∧ x.2 = y.2
      · have he2 : x = y := st_eq.1 he
        repeat' (first | (apply aH) | ((first | (apply aC) | (apply JX_f; exact rfl; intro W X hs)); (first | (apply aT; first | exact aO (i := k) (h1.st hs) hx rfl rfl aI | exact aO (i := k) (h2.st hs) hy rfl rfl aI) | (apply cI; exact aB7 rfl rfl aI) | exact zop); first | (exact rfl; exact rfl) | exact rfl) | (apply aQ) | (apply aB) | (apply aN) | (apply aW) | (apply aV) | (apply aF (t := 6); refine JL_o (by apply aR; exact aJ hs) rfl rfl ?_; rintro _ _ ⟨b6, rfl, hb6, hs, hE⟩) | (apply aU; refine JL_u (by apply aP; exact aK hs rfl rfl rfl) rfl ?_; rintro _ _ ⟨hs, hF⟩) | (apply aG; first | refine aS rfl ob ?_ | refine aZ rfl ob ?_) | (apply bV; (refine bQ (id := 6) [0, 0, 0, 6, 14, 31] [(0, 0), (1, 0), (2, 0), (3, 0), (4, 0), (5, 0)] [] hs cQ (by kernel_rfl) (by kernel_rfl) (by kernel_rfl) (by kernel_rfl) (by kernel_rfl) ?_)) | (refine bU (fun W hs => ?_)) | (apply cB))
        refine ih (k + 1) _ _ ⟨hs.sel [] (by decide), by omega, eY hx (by rw [hy, he2]) hj⟩ (by omega) zss
      · repeat' (first | (apply aH) | ((first | (apply aC) | (apply JX_f; exact rfl; intro W X hs)); (first | (apply aT; first | exact aO (i := k) (h1.st hs) hx rfl rfl aI | exact aO (i := k) (h2.st hs) hy rfl rfl aI) | (apply cI; exact aB7 rfl rfl aI) | exact zop); first | (exact rfl; exact rfl) | exact rfl) | (apply aQ) | (apply aB) | (apply aN) | (apply aV) | (apply aF (t := 6); refine JL_o (by apply aR; exact aJ hs) rfl rfl ?_; rintro _ _ ⟨b6, rfl, hb6, hs, hE⟩) | (apply aU; refine JL_u (by apply aP; exact aK hs rfl rfl rfl) rfl ?_; rintro _ _ ⟨hs, hF⟩) | (apply aG; refine aS rfl ob ?_) | (apply bV; (refine bQ (id := 6) [0, 0, 0, 6, 14, 31] [(0, 0), (1, 0), (2, 0), (3, 0), (4, 0), (5, 0)] [] hs cQ (by kernel_rfl) (by kernel_rfl) (by kernel_rfl) (by kernel_rfl) (by kernel_rfl) ?_)) | (refine bU (fun W hs => ?_)) | (apply cB))
        refine aM Tryz.func182 rfl (.tmp rfl .nil) ⟨?_, hs.frm.ext⟩
        have : xs ≠ ys := fun e => he (by rw [e, hy] at hx; injection hx with hx; rw [hx]; exact ⟨rfl, rfl⟩)
        rw [decide_eq_false this]; rfl
    · rw [List.take_of_length_le (by omega), List.take_of_length_le (by omega)] at hj
      repeat' (first | (apply aH) | ((apply aC); exact zop; first | (exact rfl; exact rfl) | exact rfl) | (apply aQ) | (apply aB) | (apply bG; refine bP rfl ?_) | (apply aG; refine aZ rfl ob ?_))
      refine aM Tryz.func182 rfl (.tmp rfl .nil) ⟨?_, hs.frm.ext⟩
      rw [decide_eq_true hj]; rfl
  · repeat' (first | (apply aH) | ((apply aC); exact zop; first | (exact rfl; exact rfl) | exact rfl) | (apply aQ) | (apply aB) | (apply aG; refine aS rfl ob ?_))
    refine aM Tryz.func182 rfl (.tmp rfl .nil) ⟨?_, hs.frm.ext⟩
    have : xs ≠ ys := by intro e; subst e; omega
    rw [decide_eq_false this]; rfl
theorem nA (w : World) (a1 a2 : Option Addr) (n1 c1 n2 c2 : Nat) (xs ys : List NM) (h1 : Sl eD All w a1 n1 c1 xs) (h2 : Sl eD All w a2 n2 c2 ys) :
    Ret Tryz.prog 111 #[.slice a1 n1 c1, .slice a2 n2 c2] w fun v w' => v = .bool (decide (xs = ys)) ∧ Ext w w' := by
  refine bI (l := [_, _]) Tryz.func111 rfl Tryz.ntmps111 (by simp) ?_
  have hs := St.init w
  have hl1 := h1.len
  have hl2 := h2.len
  have hmx := maxN h1
  obtain ⟨rs1, hr1, hm1⟩ := Sl.raw (D := gD) h1
  obtain ⟨rs2, hr2, hm2⟩ := Sl.raw (D := gD) h2
  by_cases hn : n1 = n2
  · subst hn
    repeat' (first | (apply aH) | ((apply aC); exact zop; first | (exact rfl; exact rfl) | exact rfl) | (apply aQ) | (apply aB) | (apply aN) | (apply aV) | (apply aG; refine aZ rfl ob ?_))
    refine bT (α := Nat) [(1, _), (13, _), (14, _)] (fun k => [(15, .int .i64 k)]) (fun k w' => St w NoF w' [] ∧ k ≤ n1 ∧ xs.take k = ys.take k) (fun k => n1 - k) 0 ⟨hs, by omega, by simp⟩ zss ?_
    rintro k w' ⟨hs, hk, hj⟩ ih
    by_cases hlt : k < n1
    · obtain ⟨p1, o1, rfl⟩ := h1.sl.addr (by omega)
      obtain ⟨p2, o2, rfl⟩ := h2.sl.addr (by omega)
      have hx : xs[k]? = some xs[k] := List.getElem?_eq_getElem (by omega)
      have hy : ys[k]? = some ys[k] := List.getElem?_eq_getElem (by omega)
      obtain ⟨x, hxd⟩ : ∃ x, x = xs[k] := ⟨_, rfl⟩
      obtain ⟨y, hyd⟩ : ∃ y, y = ys[k] := ⟨_, rfl⟩
      rw [← hxd] at hx
      rw [← hyd] at hy
      obtain ⟨r, hrx, hrel⟩ := hm1.get hx
      obtain ⟨q, hry, hqel⟩ := hm2.get hy
      obtain ⟨f1, f2, f3, f4⟩ := fQ hrel
      obtain ⟨g1, g2, g3, g4⟩ := fQ hqel
      by_cases e1 : r.1 = q.1
      rotate_left
      · have hb : (r.1 != q.1) = true := by simp [e1]
        repeat' (first | (apply aH) | ((apply aC); (first | (apply aT; first | exact aO (i := k) (hr1.st hs) hrx rfl rfl aI | exact aO (i := k) (hr2.st hs) hry rfl rfl aI) | exact zop); first | (exact rfl; exact rfl) | exact rfl) | (apply aQ) | (apply aB) | (apply aN) | (apply aV) | (apply aF (t := 6); refine JL_o (by apply aR; exact aJ hs) rfl rfl ?_; rintro _ _ ⟨b6, rfl, hb6, hs, hE⟩) | (apply aF (t := 7); refine JL_o (by apply aR; exact aJ hs) rfl rfl ?_; rintro _ _ ⟨b7, rfl, hb7, hs, hE⟩) | (apply aU; refine JL_u (by apply aP; exact aK hs rfl rfl rfl) rfl ?_; rintro _ _ ⟨hs, hF⟩) | (apply bK; (refine cY rfl gb rfl ?_)) | (apply aG; first | refine aS rfl ob ?_ | refine bB rfl gb ?_))
        refine aM Tryz.func111 rfl (.tmp rfl .nil) ⟨?_, hs.frm.ext⟩
        rw [decide_eq_false (fun e => e1 (by rw [e, hy] at hx; injection hx with hx; rw [f1, g1, hx]))]; rfl
      have hb : (r.1 != q.1) = false := by simp [e1]
      by_cases e2 : x.2.1 = y.2.1
      rotate_left
      · repeat' (first | ((apply bE 134; refine bM rfl gb (by exact aA lQ rfl (fN _ _ _ _ _ _ _ x.2.1 y.2.1 (f2.st hs) (g2.st hs))) rfl rfl ?_; rintro _ _ ⟨rfl, hE⟩; rw [decide_eq_false e2]; have hs := hs.ext hE; (try simp only [zcc] at hs))) | (apply aH) | ((first | (apply aC) | (apply bA; exact rfl; exact gb)); (first | (apply aT; first | exact aO (i := k) (hr1.st hs) hrx rfl rfl aI | exact aO (i := k) (hr2.st hs) hry rfl rfl aI) | exact zop); first | (exact rfl; exact rfl) | exact rfl) | (apply aQ) | (apply aB) | (apply aN) | (apply aV) | (apply aF (t := 6); refine JL_o (by apply aR; exact aJ hs) rfl rfl ?_; rintro _ _ ⟨b6, rfl, hb6, hs, hE⟩) | (apply aF (t := 7); refine JL_o (by apply aR; exact aJ hs) rfl rfl ?_; rintro _ _ ⟨b7, rfl, hb7, hs, hE⟩) | (apply aU; refine JL_u (by apply aP; exact aK hs rfl rfl rfl) rfl ?_; rintro _ _ ⟨hs, hF⟩) | (apply bK; (refine cY rfl gb rfl ?_)) | (apply aG; first | refine aS rfl ob ?_ | refine bB rfl gb ?_))
        refine aM Tryz.func111 rfl (.tmp rfl .nil) ⟨?_, hs.frm.ext⟩
        rw [decide_eq_false (fun e => e2 (by rw [e, hy] at hx; injection hx with hx; rw [hx]))]; rfl
      by_cases e3 : x.2.2.1 = y.2.2.1
      rotate_left
      · repeat' (first | ((apply bE 134; refine bM rfl gb (by exact aA lQ rfl (fN _ _ _ _ _ _ _ x.2.1 y.2.1 (f2.st hs) (g2.st hs))) rfl rfl ?_; rintro _ _ ⟨rfl, hE⟩; rw [decide_eq_true e2]; have hs := hs.ext hE; (try simp only [zcc] at hs))) | ((apply bE 182; refine bM rfl gb (by exact aA aBi rfl (mF _ _ _ _ _ _ _ x.2.2.1 y.2.2.1 (f3.st hs) (g3.st hs))) rfl rfl ?_; rintro _ _ ⟨rfl, hE⟩; rw [decide_eq_false e3]; have hs := hs.ext hE; (try simp only [zcc] at hs))) | (apply aH) | ((first | (apply aC) | (apply bA; exact rfl; exact gb)); (first | (apply aT; first | exact aO (i := k) (hr1.st hs) hrx rfl rfl aI | exact aO (i := k) (hr2.st hs) hry rfl rfl aI) | exact zop); first | (exact rfl; exact rfl) | exact rfl) | (apply aQ) | (apply aB) | (apply aN) | (apply aV) | (apply aF (t := 6); refine JL_o (by apply aR; exact aJ hs) rfl rfl ?_; rintro _ _ ⟨b6, rfl, hb6, hs, hE⟩) | (apply aF (t := 7); refine JL_o (by apply aR; exact aJ hs) rfl rfl ?_; rintro _ _ ⟨b7, rfl, hb7, hs, hE⟩) | (apply aU; refine JL_u (by apply aP; exact aK hs rfl rfl rfl) rfl ?_; rintro _ _ ⟨hs, hF⟩) | (apply bK; (refine cY rfl gb rfl ?_)) | (apply aG; first | refine aS rfl ob ?_ | refine bB rfl gb ?_))
        refine aM Tryz.func111 rfl (.tmp rfl .nil) ⟨?_, hs.frm.ext⟩
        rw [decide_eq_false (fun e => e3 (by rw [e, hy] at hx; injection hx with hx; rw [hx]))]; rfl
      obtain ⟨e4, he4⟩ : ∃ b, decide (x.2.2.2 = y.2.2.2) = b := ⟨_, rfl⟩
      cases e4 with
      | false =>
        have e4 := of_decide_eq_false he4
        repeat' (first | ((apply bE 134; refine bM rfl gb (by exact aA lQ rfl (fN _ _ _ _ _ _ _ x.2.1 y.2.1 (f2.st hs) (g2.st hs))) rfl rfl ?_; rintro _ _ ⟨rfl, hE⟩; rw [decide_eq_true e2]; have hs := hs.ext hE; (try simp only [zcc] at hs))) | ((apply bE 182; refine bM rfl gb (by exact aA aBi rfl (mF _ r.2.2.1.1 q.2.2.1.1 _ _ _ _ x.2.2.1 y.2.2.1 (f3.st hs) (g3.st hs))) rfl rfl ?_; rintro _ _ ⟨rfl, hE⟩; rw [decide_eq_true e3]; have hs := hs.ext hE; (try simp only [zcc] at hs))) | ((apply bE 182; refine bM rfl gb (by exact aA aBi rfl (mF _ r.2.2.2.1 q.2.2.2.1 _ _ _ _ x.2.2.2 y.2.2.2 (f4.st hs) (g4.st hs))) rfl rfl ?_; rintro _ _ ⟨rfl, hE⟩; rw [he4]; have hs := hs.ext hE; (try simp only [zcc] at hs))) | (apply aH) | ((first | (apply aC) | (apply bA; exact rfl; exact gb)); (first | (apply aT; first | exact aO (i := k) (hr1.st hs) hrx rfl rfl aI | exact aO (i := k) (hr2.st hs) hry rfl rfl aI) | exact zop); first | (exact rfl; exact rfl) | exact rfl) | (apply aQ) | (apply aB) | (apply aN) | (apply aV) | (apply aF (t := 6); refine JL_o (by apply aR; exact aJ hs) rfl rfl ?_; rintro _ _ ⟨b6, rfl, hb6, hs, hE⟩) | (apply aF (t := 7); refine JL_o (by apply aR; exact aJ hs) rfl rfl ?_; rintro _ _ ⟨b7, rfl, hb7, hs, hE⟩) | (apply aU; refine JL_u (by apply aP; exact aK hs rfl rfl rfl) rfl ?_; rintro _ _ ⟨hs, hF⟩) | (apply aG; first | refine aS rfl ob ?_ | refine bB rfl gb ?_))
        refine aM Tryz.func111 rfl (.tmp rfl .nil) ⟨?_, hs.frm.ext⟩
        rw [decide_eq_false (fun e => e4 (by rw [e, hy] at hx; injection hx with hx; rw [hx]))]; rfl
      | true =>
        have e4 := of_decide_eq_true he4
        repeat' (first | ((apply bE 134; refine bM rfl gb (by exact aA lQ rfl (fN _ _ _ _ _ _ _ x.2.1 y.2.1 (f2.st hs) (g2.st hs))) rfl rfl ?_; rintro _ _ ⟨rfl, hE⟩; rw [decide_eq_true e2]; have hs := hs.ext hE; (try simp only [zcc] at hs))) | ((apply bE 182; refine bM rfl gb (by exact aA aBi rfl (mF _ r.2.2.1.1 q.2.2.1.1 _ _ _ _ x.2.2.1 y.2.2.1 (f3.st hs) (g3.st hs))) rfl rfl ?_; rintro _ _ ⟨rfl, hE⟩; rw [decide_eq_true e3]; have hs := hs.ext hE; (try simp only [zcc] at hs))) | ((apply bE 182; refine bM rfl gb (by exact aA aBi rfl (mF _ r.2.2.2.1 q.2.2.2.1 _ _ _ _ x.2.2.2 y.2.2.2 (f4.st hs) (g4.st hs))) rfl rfl ?_; rintro _ _ ⟨rfl, hE⟩; rw [he4]; have hs := hs.ext hE; (try simp only [zcc] at hs))) | (apply aH) | ((first | (apply aC) | (apply bA; exact rfl; exact gb)); (first | (apply aT; first | exact aO (i := k) (hr1.st hs) hrx rfl rfl aI | exact aO (i := k) (hr2.st hs) hry rfl rfl aI) | exact zop); first | (exact rfl; exact rfl) | exact rfl) | (apply aQ) | (apply aB) | (apply aN) | (apply aW) | (apply aV) | (apply aF (t := 6); refine JL_o (by apply aR; exact aJ hs) rfl rfl ?_; rintro _ _ ⟨b6, rfl, hb6, hs, hE⟩) | (apply aF (t := 7); refine JL_o (by apply aR; exact aJ hs) rfl rfl ?_; rintro _ _ ⟨b7, rfl, hb7, hs, hE⟩) | (apply aU; refine JL_u (by apply aP; exact aK hs rfl rfl rfl) rfl ?_; rintro _ _ ⟨hs, hF⟩) | (apply aG; first | refine aS rfl ob ?_ | refine bD rfl gb ?_))
        refine ih (k + 1) _ _ ⟨hs.sel [] (by decide), by omega, eY hx (by rw [hy, nm_eq.2 ⟨by rw [← f1, ← g1, e1], e2, e3, e4⟩]) hj⟩ (by omega) zss
    · rw [List.take_of_length_le (by omega), List.take_of_length_le (by omega)] at hj
      repeat' (first | (apply aH) | ((apply aC); exact zop; first | (exact rfl; exact rfl) | exact rfl) | (apply aQ) | (apply aB) | (apply bG; refine bP rfl ?_) | (apply aG; refine aZ rfl ob ?_))
      refine aM Tryz.func111 rfl (.tmp rfl .nil) ⟨?_, hs.frm.ext⟩
      rw [decide_eq_true hj]; rfl
  · repeat' (first | (apply aH) | ((apply aC); exact zop; first | (exact rfl; exact rfl) | exact rfl) | (apply aQ) | (apply aB) | (apply aG; refine aS rfl ob ?_))
    refine aM Tryz.func111 rfl (.tmp rfl .nil) ⟨?_, hs.frm.ext⟩
    have : xs ≠ ys := by intro e; subst e; omega
    rw [decide_eq_false this]; rfl
theorem dT (w : World) (a : Option Addr) (n c : Nat) (N : List NM) (x : Int) (h : Sl eD All w a n c N) (hx : inK .i64 x) :
    Ret Tryz.prog 56 #[.slice a n c, .int .i64 x] w fun v w' => v = .bool (isM N x) ∧ Ext w w' := by
  refine bI (l := [_, _]) Tryz.func56 rfl Tryz.ntmps56 (by simp) ?_
  have hs := St.init w
  have hl := h.len
  obtain ⟨rs, hr, hm⟩ := Sl.raw (D := gD) h
  have hmx := maxN h
  unfold inK at hx
  simp only [IntKind.min, IntKind.max, IntKind.bits, IntKind.signed] at hx
  have hcase : x < 1 ∨ (1 ≤ x ∧ (n : Int) < x) ∨ (1 ≤ x ∧ x ≤ n) := by omega
  rcases hcase with h1 | ⟨h1, h2⟩ | ⟨h1, h2⟩
  · have e : isM N x = false := by unfold isM; rw [decide_eq_false (by omega)]; rfl
    rw [e]
    repeat' (first | (apply aH) | ((apply aC); exact zop; first | (exact rfl; exact rfl) | exact rfl) | (apply aQ) | (apply aB) | (apply bK; (refine cY rfl gb rfl ?_)))
    refine aM Tryz.func56 rfl (.tmp rfl .nil) ⟨rfl, hs.frm.ext⟩
  · have e : isM N x = false := by unfold isM; rw [decide_eq_false (by omega)]; rfl
    rw [e]
    repeat' (first | (apply aH) | ((first | (apply aC) | (apply bA; exact rfl; exact gb)); exact zop; first | (exact rfl; exact rfl) | exact rfl) | (apply aQ) | (apply aB) | (apply bK; (refine cY rfl gb rfl ?_)))
    refine aM Tryz.func56 rfl (.tmp rfl .nil) ⟨rfl, hs.frm.ext⟩
  · obtain ⟨k, rfl⟩ : ∃ k : Nat, x = (k : Int) + 1 := ⟨(x - 1).toNat, by omega⟩
    obtain ⟨p, o, rfl⟩ := hr.sl.addr (by omega)
    have hy : N[k]? = some (N[k]'(by omega)) := List.getElem?_eq_getElem (by omega)
    obtain ⟨y, hyd⟩ : ∃ y, y = N[k]'(by omega) := ⟨_, rfl⟩
    rw [← hyd] at hy
    obtain ⟨r, hrx, e1, _⟩ := hm.get hy
    have e1 : r.1 = y.1 := e1
    have e : isM N ((k : Int) + 1) = r.1 := by
      unfold isM
      have e2 : ((k : Int) + 1 - 1).toNat = k := by omega
      rw [decide_eq_true (by omega), e2, cK hy, e1]; rfl
    have hrx2 : rs[((k : Int) + 1 - 1).toNat]? = some r := by rw [show ((k : Int) + 1 - 1).toNat = k by omega]; exact hrx
    rw [e]
    repeat' (first | (apply aH) | ((first | (apply aC) | (apply bA; exact rfl; exact gb)); (first | (apply aT; first | exact aX (i := ((k : Int) + 1 - 1).toNat) (j := 0) (hr.st hs) hrx2 rfl rfl rfl aI) | exact zop); first | (exact rfl; exact rfl) | exact rfl) | (apply aQ) | (apply aB))
    refine aM Tryz.func56 rfl (.tmp rfl .nil) ⟨rfl, hs.frm.ext⟩
theorem iB (w : World) (a a2 : Option Addr) (n c n2 c2 : Nat) (N : List NM) (t : List Int) (h : Sl eD All w a n c N) (h2 : Sl dId All w a2 n2 c2 t) :
    Ret Tryz.prog 57 #[.slice a n c, .slice a2 n2 c2] w fun v w' => v = .int .i64 (eX N t) ∧ Ext w w' := by
  refine bI (l := [_, _]) Tryz.func57 rfl Tryz.ntmps57 (by simp) ?_
  have hs := St.init w
  have hl := h.len
  obtain ⟨rs, hr, hm⟩ := Sl.raw (D := gD) h
  have hmx := maxN h
  repeat' (first | (apply aH) | ((apply aC); exact zop; first | (exact rfl; exact rfl) | exact rfl) | (apply aQ) | (apply aB) | (apply aN))
  refine bT (α := Nat) [(1, _), (7, _), (8, _)] (fun k => [(9, .int .i64 k)]) (fun k w' => St w NoF w' [] ∧ k ≤ n ∧ eX N t = pO N t (N.length - k) k) (fun k => n - k) 0 ⟨hs, Nat.zero_le _, rfl⟩ zss ?_
  rintro k w2 ⟨hs1, hk, hfg⟩ ih
  have hs : St w NoF w2 [] := hs1
  by_cases hlt : k < n
  · obtain ⟨p, o, rfl⟩ := hr.sl.addr (by omega)
    have hs : St w NoF w2 [] := hs1
    have hy : N[k]? = some (N[k]'(by omega)) := List.getElem?_eq_getElem (by omega)
    obtain ⟨y, hyd⟩ : ∃ y, y = N[k]'(by omega) := ⟨_, rfl⟩
    rw [← hyd] at hy
    obtain ⟨r, hrx, hrel⟩ := hm.get hy
    obtain ⟨f1, f2, f3, f4⟩ := fQ hrel
    rw [yJ (by omega), cK hy] at hfg
    obtain ⟨rb, hrb⟩ : ∃ b, r.1 = b := ⟨_, rfl⟩
    cases rb with
    | false =>
      rw [if_neg (by unfold hasU; rw [← f1, hrb, Bool.false_and]; decide)] at hfg
      repeat' (first | (apply aH) | ((apply aC); (first | (apply aT; exact aO (i := k) (hr.st hs) hrx rfl rfl aI) | exact zop); first | (exact rfl; exact rfl) | exact rfl) | (apply aQ) | (apply aB) | (apply aN) | (apply aW) | (apply aV) | (apply aF (t := 6); refine JL_o (by apply aR; exact aJ hs) rfl rfl ?_; rintro _ _ ⟨b6, rfl, hb6, hs, hE⟩) | (apply aU; refine JL_u (by apply aP; exact aK hs rfl rfl rfl) rfl ?_; rintro _ _ ⟨hs, hF⟩) | (apply bK; (refine cY rfl gb rfl ?_)) | (apply aG; first | refine aS rfl ob ?_ | refine bD rfl gb ?_))
      refine ih (k + 1) _ _ ⟨hs.sel [] (by decide), hlt, hfg⟩ (by omega) zss
    | true =>
      by_cases hc : y.2.1 = t
      · rw [if_pos (hasU_true.2 ⟨by rw [← f1, hrb], hc⟩)] at hfg
        repeat' (first | ((apply bE 134; refine bM rfl gb (by exact aA lQ rfl (fN _ _ _ _ _ _ _ y.2.1 t (f2.st hs) (h2.st hs))) rfl rfl ?_; rintro _ _ ⟨rfl, hE⟩; rw [decide_eq_true hc]; have hs := hs.ext hE; (try simp only [zcc] at hs))) | (apply aH) | ((first | (apply aC) | (apply bA; exact rfl; exact gb)); (first | (apply aT; exact aO (i := k) (hr.st hs) hrx rfl rfl aI) | exact zop); first | (exact rfl; exact rfl) | exact rfl) | (apply aQ) | (apply aB) | (apply aN) | (apply aV) | (apply aF (t := 6); refine JL_o (by apply aR; exact aJ hs) rfl rfl ?_; rintro _ _ ⟨b6, rfl, hb6, hs, hE⟩) | (apply aU; refine JL_u (by apply aP; exact aK hs rfl rfl rfl) rfl ?_; rintro _ _ ⟨hs, hF⟩) | (apply aG; first | refine aS rfl ob ?_ | refine bB rfl gb ?_))
        refine aM Tryz.func57 rfl (.tmp rfl .nil) ⟨by rw [hfg]; rfl, hs.frm.ext⟩
      · rw [if_neg (fun e => hc (hasU_true.1 e).2)] at hfg
        repeat' (first | ((apply bE 134; refine bM rfl gb (by exact aA lQ rfl (fN _ _ _ _ _ _ _ y.2.1 t (f2.st hs) (h2.st hs))) rfl rfl ?_; rintro _ _ ⟨rfl, hE⟩; rw [decide_eq_false hc]; have hs := hs.ext hE; (try simp only [zcc] at hs))) | (apply aH) | ((first | (apply aC) | (apply bA; exact rfl; exact gb)); (first | (apply aT; exact aO (i := k) (hr.st hs) hrx rfl rfl aI) | exact zop); first | (exact rfl; exact rfl) | exact rfl) | (apply aQ) | (apply aB) | (apply aN) | (apply aW) | (apply aV) | (apply aF (t := 6); refine JL_o (by apply aR; exact aJ hs) rfl rfl ?_; rintro _ _ ⟨b6, rfl, hb6, hs, hE⟩) | (apply aU; refine JL_u (by apply aP; exact aK hs rfl rfl rfl) rfl ?_; rintro _ _ ⟨hs, hF⟩) | (apply aG; first | refine aS rfl ob ?_ | refine bD rfl gb ?_))
        refine ih (k + 1) _ _ ⟨hs.sel [] (by decide), hlt, hfg⟩ (by omega) zss
  · have hk0 : eX N t = 0 := by rw [hfg, show N.length - k = 0 by omega]; rfl
    rw [hk0]
    repeat' (first | (apply aH) | ((apply aC); exact zop; first | (exact rfl; exact rfl) | exact rfl) | (apply aQ) | (apply aB) | (apply bG; refine bP rfl ?_) | (apply aG; refine aZ rfl ob ?_))
    refine aM Tryz.func57 rfl (.tmp rfl .nil) ⟨rfl, hs.frm.ext⟩
end Go.Eng
end
section
namespace Go.Eng
open Go.Proofs
set_option linter.unusedSimpArgs false
set_option linter.unusedVariables false
attribute [local irreducible] Hold J JL JD JX JXat OpR OpG Ret RetV Is Blk Row
set_option maxRecDepth 100000
set_option maxHeartbeats 2000000
theorem iY (w : World) (a a3 : Option Addr) (n c n3 c3 : Nat) (N : List NM) (k0 : Nat) (row : List ST) (plus : Bool) (h : Sl eD All w a n c N) (hk0 : k0 < n) (hz : szN N) (hrow : Sl dStp All w a3 n3 c3 row) :
    Ret Tryz.prog 167 #[.slice a n c, .int .i64 ((k0 : Int) + 1), .slice a3 n3 c3, .bool plus] w fun v w' => v = .bool (gO N ((k0 : Int) + 1) row plus) ∧ Ext w w' := by
  refine bI (l := [_, _, _, _]) Tryz.func167 rfl Tryz.ntmps167 (by simp) ?_
  have hs := St.init w
  have hl := h.len
  have hl3 := hrow.len
  have hNo := qL h
  have hro := mB hrow
  obtain ⟨rs, hr, hm⟩ := Sl.raw (D := gD) h
  have hmx := maxN h
  have hmx3 := maxN hrow
  obtain ⟨p, o, rfl⟩ := hr.sl.addr (by omega)
  have hy0 : N[k0]? = some (N[k0]'(by omega)) := List.getElem?_eq_getElem (by omega)
  obtain ⟨y0, hyd0⟩ : ∃ y, y = N[k0]'(by omega) := ⟨_, rfl⟩
  rw [← hyd0] at hy0
  obtain ⟨r0, hr0, e00, e0, e01, e02⟩ := hm.get hy0
  have mT : Sl dId All w r0.2.1.1 r0.2.1.2.1 r0.2.1.2.2 y0.2.1 := e0
  have mTl := mT.len
  have zT := (hz y0 (List.mem_of_getElem? hy0)).1
  have hr0' : rs[((k0 : Int) + 1 - 1).toNat]? = some r0 := by rw [show ((k0 : Int) + 1 - 1).toNat = k0 by omega]; exact hr0
  have hnode := cO hy0
  obtain ⟨T, hT⟩ : ∃ T, T = y0.2.1 := ⟨_, rfl⟩
  rw [← hT] at mT mTl zT
  repeat' (first | (apply aH) | ((apply aC); (first | (apply aT; first | exact aO (i := ((k0 : Int) + 1 - 1).toNat) (hr.st hs) hr0' rfl rfl aI) | exact zop); first | (exact rfl; exact rfl) | exact rfl) | (apply aQ) | (apply aB) | (apply aN) | (apply aF (t := 9); refine JL_o (by apply aR; exact aJ hs) rfl rfl ?_; rintro _ _ ⟨b9, rfl, hb9, hs, hE⟩) | (apply aU; refine JL_u (by apply aP; exact aK hs rfl rfl rfl) rfl ?_; rintro _ _ ⟨hs, hF⟩))
  refine bT (α := Nat) [(0, _), (1, _), (2, _), (3, _), (9, _), (19, _), (20, _)] (fun k => [(21, .int .i64 k)]) (fun k w' => St w NoF w' [Blk b9 (.cells (cNd r0).toArray 79 (0, 0))] ∧ k ≤ n3 ∧ ∀ j, j < k → rS N ((k0 : Int) + 1) row plus j = true) (fun k => n3 - k) 0 ⟨hs, Nat.zero_le _, fun j hj => absurd hj (Nat.not_lt_zero _)⟩ zss ?_
  rintro k w2 ⟨hs1, hk, hall⟩ ih
  have hs : St w NoF w2 [Blk b9 (.cells #[.bool r0.1, .slice r0.2.1.1 r0.2.1.2.1 r0.2.1.2.2, .slice r0.2.2.1.1 r0.2.2.1.2.1 r0.2.2.1.2.2, .slice r0.2.2.2.1 r0.2.2.2.2.1 r0.2.2.2.2.2] 79 (0, 0))] := hs1
  by_cases hlt : k < n3
  · obtain ⟨p3, o3, rfl⟩ := hrow.sl.addr (by omega)
    have hs : St w NoF w2 [Blk b9 (.cells #[.bool r0.1, .slice r0.2.1.1 r0.2.1.2.1 r0.2.1.2.2, .slice r0.2.2.1.1 r0.2.2.1.2.1 r0.2.2.1.2.2, .slice r0.2.2.2.1 r0.2.2.2.2.1 r0.2.2.2.2.2] 79 (0, 0))] := hs1
    have hv : row[k]? = some (row[k]'(by omega)) := List.getElem?_eq_getElem (by omega)
    obtain ⟨s, hsd⟩ : ∃ s, s = row[k]'(by omega) := ⟨_, rfl⟩
    rw [← hsd] at hv
    have hso := hro s (List.mem_of_getElem? hv)
    obtain ⟨q, hq⟩ : ∃ q, q = row.getD (k - 1) s0 := ⟨_, rfl⟩
    have hprev : (k : Int) > 0 → row[((k : Int) - 1).toNat]? = some q := fun hk0 => by
      rw [show ((k : Int) - 1).toNat = k - 1 by omega, hq, cK (List.getElem?_eq_getElem (by omega : k - 1 < row.length))]
      exact List.getElem?_eq_getElem _
    have hst : rS N ((k0 : Int) + 1) row plus k = ((decide (k = 0) || decide (q.1 < s.1)) && (isM N s.2 && ((decide (s.1 ∈ T) != plus) && (decide ((s.1, (k0 : Int) + 1) ∈ sS (cZ N s.2) plus) && decide ((cZ N s.2).2.1 = fZ plus T s.1))))) := by
      unfold rS
      rw [hnode, cK hv, ← hq, hT]
    by_cases hadj : (k : Int) > 0 → ¬ q.1 ≥ s.1
    rotate_left
    · have hk0 : (k : Int) > 0 := Decidable.by_contra fun h => hadj (fun h2 => absurd h2 h)
      have hccn : q.1 ≥ s.1 := Decidable.by_contra fun h => hadj (fun _ => h)
      have hf : gO N ((k0 : Int) + 1) row plus = false := eC (k := k) (by omega) (by
        rw [hst, decide_eq_false (by omega : ¬ k = 0), decide_eq_false (by omega)]; rfl)
      rw [hf]
      repeat' (first | (apply aH) | ((first | (apply aC) | (apply JX_f; exact rfl; intro W X hs) | (apply dB; exact rfl; exact rfl; exact gb; intro W X hs)); (first | (apply aT; first | exact aX (i := ((k : Int) - 1).toNat) (j := 0) (hrow.st hs) (hprev (by assumption)) rfl rfl rfl aI | exact aO (i := k) (hrow.st hs) hv rfl rfl aI) | exact zop); first | (exact rfl; exact rfl) | exact rfl) | (apply aQ) | (apply aB) | (apply aN) | (apply aV) | (apply aF (t := 11); refine JL_o (by apply aR; exact aJ hs) rfl rfl ?_; rintro _ _ ⟨b11, rfl, hb11, hs, hE⟩) | (apply aU; refine JL_u (by apply aP; exact aK hs rfl rfl rfl) rfl ?_; rintro _ _ ⟨hs, hF⟩) | (apply aG; first | refine aS rfl ob ?_ | refine bB rfl gb ?_) | (apply bV; (refine bQ (id := 5) [0, 1, 3, 7, 7, 23, 63, 127, 255, 7, 519, 2047, 4095, 8191, 16383, 16383, 49151, 131071, 262143, 524287, 1048575, 2097151, 4194303, 2097151, 10485759, 33554431, 2097151, 134217727, 268435455] [(0, 0), (1, 0), (2, 0), (3, 0), (4, 0), (5, 0), (6, 0), (7, 0), (8, 0), (9, 0), (10, 0), (11, 0), (12, 0), (13, 0), (14, 0), (15, 0), (16, 0), (17, 1), (18, 0), (19, 0), (20, 0), (21, 0), (22, 0), (23, 0), (24, 0), (26, 0), (25, 1), (27, 0), (28, 0)] [] hs cQ (by kernel_rfl) (by kernel_rfl) (by kernel_rfl) (by kernel_rfl) (by kernel_rfl) ?_)) | (refine bU (fun W hs => ?_)) | (refine cM rfl rfl gb rfl ?_) | (refine cU rfl rfl gb rfl ?_) | (apply cB))
      refine aM Tryz.func167 rfl (.tmp rfl .nil) ⟨rfl, hs.frm.ext⟩
    have hadB : (decide (k = 0) || decide (q.1 < s.1)) = true := by
      by_cases e : k = 0
      · rw [decide_eq_true e]; rfl
      · rw [decide_eq_true (show q.1 < s.1 by have := hadj (by omega); omega)]; exact Bool.or_true _
    rw [hadB, Bool.true_and] at hst
    obtain ⟨ib, his⟩ : ∃ ib, isM N s.2 = ib := ⟨_, rfl⟩
    obtain ⟨hb, hhas⟩ : ∃ hb, decide (s.1 ∈ T) = hb := ⟨_, rfl⟩
    rw [his, hhas] at hst
    cases plus with
    | true =>
      cases ib with
      | false =>
        rw [eC (k := k) (by omega) (by rw [hst]; rfl)]
        repeat' (first | ((apply ax_c; apply bY 56; exact rfl; exact rfl; exact gb; (intro W X hN hs; exact aA en56 rfl (dT _ (some ⟨p, o, none⟩) n c N s.2 (h.st hs) hso.2)); (rintro _ _ _ _ ⟨rfl, hE⟩; first | exact hE | exact Fresh.ext hf); rintro W X _ _ hN hs ⟨rfl, hE⟩; rw [his]; have hs := hs.ext hE; (try simp only [zcc] at hs); refine JX.at hs ?_)) | (apply aH) | ((first | (apply aC) | (apply JX_f; exact rfl; intro W X hs) | (apply dB; exact rfl; exact rfl; exact gb; intro W X hs)); (first | (apply aT; first | exact aX (i := ((k : Int) - 1).toNat) (j := 0) (hrow.st hs) (hprev (by assumption)) rfl rfl rfl aI | exact aO (i := k) (hrow.st hs) hv rfl rfl aI) | exact zop); first | (exact rfl; exact rfl) | exact rfl) | (apply aQ) | (apply aB) | (apply aN) | (apply aV) | (apply aF (t := 11); refine JL_o (by apply aR; exact aJ hs) rfl rfl ?_; rintro _ _ ⟨b11, rfl, hb11, hs, hE⟩) | (apply aU; refine JL_u (by apply aP; exact aK hs rfl rfl rfl) rfl ?_; rintro _ _ ⟨hs, hF⟩) | (apply aG; first | refine aS rfl ob ?_ | refine bB rfl gb ?_) | (apply bV; (refine bQ (id := 5) [0, 1, 3, 7, 7, 23, 63, 127, 255, 7, 519, 2047, 4095, 8191, 16383, 16383, 49151, 131071, 262143, 524287, 1048575, 2097151, 4194303, 2097151, 10485759, 33554431, 2097151, 134217727, 268435455] [(0, 0), (1, 0), (2, 0), (3, 0), (4, 0), (5, 0), (6, 0), (7, 0), (8, 0), (9, 0), (10, 0), (11, 0), (12, 0), (13, 0), (14, 0), (15, 0), (16, 0), (17, 1), (18, 0), (19, 0), (20, 0), (21, 0), (22, 0), (23, 0), (24, 0), (26, 0), (25, 1), (27, 0), (28, 0)] [] hs cQ (by kernel_rfl) (by kernel_rfl) (by kernel_rfl) (by kernel_rfl) (by kernel_rfl) ?_)) | (refine bU (fun W hs => ?_)) | (refine cM rfl rfl gb rfl ?_) | (refine cU rfl rfl gb rfl ?_) | (refine cE rfl rfl (fun hq => ?_) (fun hq => ?_); (fail_if_success (exact absurd (by clear hq; first | assumption | omega) (not_not_intro hq))); rotate_left; (fail_if_success (exact absurd (by clear hq; first | assumption | omega) hq)); rotate_left) | (apply cB))
        all_goals refine aM Tryz.func167 rfl (.tmp rfl .nil) ⟨rfl, hs.frm.ext⟩
      | true =>
        obtain ⟨j, yj, hj, hyj, hyu⟩ := isM_true.1 his
        have hjl := (List.getElem?_eq_some_iff.1 hyj).1
        obtain ⟨rj, hrj0, f1, f2, f3, f4⟩ := hm.get hyj
        have mj1 : Sl dId All w rj.2.1.1 rj.2.1.2.1 rj.2.1.2.2 yj.2.1 := f2
        have mj2 : Sl dStp All w rj.2.2.1.1 rj.2.2.1.2.1 rj.2.2.1.2.2 yj.2.2.1 := f3
        have mj3 : Sl dStp All w rj.2.2.2.1 rj.2.2.2.2.1 rj.2.2.2.2.2 yj.2.2.2 := f4
        have hrj : rs[(s.2 - 1).toNat]? = some rj := by rw [hj, show ((j : Int) + 1 - 1).toNat = j by omega]; exact hrj0
        have hsj : 1 ≤ s.2 ∧ s.2 ≤ n := by omega
        have hnj : cZ N s.2 = yj := by rw [hj]; exact cO hyj
        rw [hnj] at hst
        cases hb with
        | true =>
          rw [eC (k := k) (by omega) (by rw [hst]; rfl)]
          repeat' (first | ((apply ax_c; apply bY 56; exact rfl; exact rfl; exact gb; (intro W X hN hs; exact aA en56 rfl (dT _ (some ⟨p, o, none⟩) n c N s.2 (h.st hs) hso.2)); (rintro _ _ _ _ ⟨rfl, hE⟩; first | exact hE | exact Fresh.ext hf); rintro W X _ _ hN hs ⟨rfl, hE⟩; rw [his]; have hs := hs.ext hE; (try simp only [zcc] at hs); refine JX.at hs ?_)) | ((apply ax_c; apply bY 29; exact rfl; exact rfl; exact gb; (intro W X hN hs; exact aA en29 rfl (fD _ r0.2.1.1 r0.2.1.2.1 r0.2.1.2.2 T s.1 (mT.st hs))); (rintro _ _ _ _ ⟨rfl, hE⟩; first | exact hE | exact Fresh.ext hf); rintro W X _ _ hN hs ⟨rfl, hE⟩; rw [hhas]; have hs := hs.ext hE; (try simp only [zcc] at hs); refine JX.at hs ?_)) | (apply aH) | ((first | (apply aC) | (apply JX_f; exact rfl; intro W X hs) | (apply dB; exact rfl; exact rfl; exact gb; intro W X hs)); (first | (apply aT; first | exact aX (i := ((k : Int) - 1).toNat) (j := 0) (hrow.st hs) (hprev (by assumption)) rfl rfl rfl aI | exact aO (i := k) (hrow.st hs) hv rfl rfl aI) | exact zop); first | (exact rfl; exact rfl) | exact rfl) | (apply aQ) | (apply aB) | (apply aN) | (apply aV) | (apply aF (t := 11); refine JL_o (by apply aR; exact aJ hs) rfl rfl ?_; rintro _ _ ⟨b11, rfl, hb11, hs, hE⟩) | (apply aU; refine JL_u (by apply aP; exact aK hs rfl rfl rfl) rfl ?_; rintro _ _ ⟨hs, hF⟩) | (apply aG; first | refine aS rfl ob ?_ | refine bB rfl gb ?_) | (apply bV; (refine bQ (id := 5) [0, 1, 3, 7, 7, 23, 63, 127, 255, 7, 519, 2047, 4095, 8191, 16383, 16383, 49151, 131071, 262143, 524287, 1048575, 2097151, 4194303, 2097151, 10485759, 33554431, 2097151, 134217727, 268435455] [(0, 0), (1, 0), (2, 0), (3, 0), (4, 0), (5, 0), (6, 0), (7, 0), (8, 0), (9, 0), (10, 0), (11, 0), (12, 0), (13, 0), (14, 0), (15, 0), (16, 0), (17, 1), (18, 0), (19, 0), (20, 0), (21, 0), (22, 0), (23, 0), (24, 0), (26, 0), (25, 1), (27, 0), (28, 0)] [] hs cQ (by kernel_rfl) (by kernel_rfl) (by kernel_rfl) (by kernel_rfl) (by kernel_rfl) ?_)) | (refine bU (fun W hs => ?_)) | (refine cM rfl rfl gb rfl ?_) | (refine cE rfl rfl (fun hq => ?_) (fun hq => ?_); (fail_if_success (exact absurd (by clear hq; first | assumption | omega) (not_not_intro hq))); rotate_left; (fail_if_success (exact absurd (by clear hq; first | assumption | omega) hq)); rotate_left) | (apply cB))
          all_goals refine aM Tryz.func167 rfl (.tmp rfl .nil) ⟨rfl, hs.frm.ext⟩
        | false =>
          obtain ⟨ZL, hZL⟩ : ∃ z, z = wiT T s.1 := ⟨_, rfl⟩
          have hzl : fZ true T s.1 = ZL := by rw [hZL]; rfl
          have hbk : sS yj true = yj.2.2.2 := rfl
          have hZo : ∀ x ∈ ZL, okId x := by rw [hZL]; exact (fun x hx => (wiT_mem.1 hx).elim (fun e => e ▸ hso.1) (fun e => jW mT x e))
          rw [hzl, hbk] at hst
          by_cases hin : (s.1, (k0 : Int) + 1) ∈ yj.2.2.2
          rotate_left
          · have hke : decide ((s.1, (k0 : Int) + 1) ∈ yj.2.2.2) = false := decide_eq_false hin
            rw [eC (k := k) (by omega) (by rw [hst, hke]; rfl)]
            repeat' (first | ((apply ax_c; apply bY 56; exact rfl; exact rfl; exact gb; (intro W X hN hs; exact aA en56 rfl (dT _ (some ⟨p, o, none⟩) n c N s.2 (h.st hs) hso.2)); (rintro _ _ _ _ ⟨rfl, hE⟩; first | exact hE | exact Fresh.ext hf); rintro W X _ _ hN hs ⟨rfl, hE⟩; rw [his]; have hs := hs.ext hE; (try simp only [zcc] at hs); refine JX.at hs ?_)) | ((apply ax_c; apply bY 29; exact rfl; exact rfl; exact gb; (intro W X hN hs; exact aA en29 rfl (fD _ r0.2.1.1 r0.2.1.2.1 r0.2.1.2.2 T s.1 (mT.st hs))); (rintro _ _ _ _ ⟨rfl, hE⟩; first | exact hE | exact Fresh.ext hf); rintro W X _ _ hN hs ⟨rfl, hE⟩; rw [hhas]; have hs := hs.ext hE; (try simp only [zcc] at hs); refine JX.at hs ?_)) | ((apply ax_c; apply bY 218; exact rfl; exact rfl; exact gb; (intro W X hN hs; exact aA yN rfl (qT _ rj.2.2.2.1 rj.2.2.2.2.1 rj.2.2.2.2.2 yj.2.2.2 (s.1, (k0 : Int) + 1) (mj3.st hs))); (rintro _ _ _ _ ⟨rfl, hE⟩; first | exact hE | exact Fresh.ext hf); rintro W X _ _ hN hs ⟨rfl, hE⟩; rw [hke]; have hs := hs.ext hE; (try simp only [zcc] at hs); refine JX.at hs ?_)) | (apply aH) | ((first | (apply aC) | (apply JX_f; exact rfl; intro W X hs) | (apply dB; exact rfl; exact rfl; exact gb; intro W X hs)); (first | (apply aT; first | exact aX (i := ((k : Int) - 1).toNat) (j := 0) (hrow.st hs) (hprev (by assumption)) rfl rfl rfl aI | exact aO (i := k) (hrow.st hs) hv rfl rfl aI | exact aO (i := (s.2 - 1).toNat) (hr.st hs) hrj rfl rfl aI) | exact zop); first | (exact rfl; exact rfl) | exact rfl) | (apply aQ) | (apply aB) | (apply aN) | (apply aV) | (apply aF (t := 11); refine JL_o (by apply aR; exact aJ hs) rfl rfl ?_; rintro _ _ ⟨b11, rfl, hb11, hs, hE⟩) | (apply aF (t := 12); refine JL_o (by apply aR; exact aJ hs) rfl rfl ?_; rintro _ _ ⟨b12, rfl, hb12, hs, hE⟩) | (apply aF (t := 13); refine JL_o (by apply aR; exact aJ hs) rfl rfl ?_; rintro _ _ ⟨b13, rfl, hb13, hs, hE⟩) | (apply aU; refine JL_u (by apply aP; exact aK hs rfl rfl rfl) rfl ?_; rintro _ _ ⟨hs, hF⟩) | (apply aG; first | refine aS rfl ob ?_ | refine bB rfl gb ?_ | refine bD rfl gb ?_) | (apply bV; first | (refine bQ (id := 5) [0, 1, 3, 7, 7, 23, 63, 127, 255, 7, 519, 2047, 4095, 8191, 16383, 16383, 49151, 131071, 262143, 524287, 1048575, 2097151, 4194303, 2097151, 10485759, 33554431, 2097151, 134217727, 268435455] [(0, 0), (1, 0), (2, 0), (3, 0), (4, 0), (5, 0), (6, 0), (7, 0), (8, 0), (9, 0), (10, 0), (11, 0), (12, 0), (13, 0), (14, 0), (15, 0), (16, 0), (17, 1), (18, 0), (19, 0), (20, 0), (21, 0), (22, 0), (23, 0), (24, 0), (26, 0), (25, 1), (27, 0), (28, 0)] [] hs cQ (by kernel_rfl) (by kernel_rfl) (by kernel_rfl) (by kernel_rfl) (by kernel_rfl) ?_) | (refine bQ (id := 9) [0, 1, 3, 7, 3, 31, 63, 127, 255, 511, 255, 1279, 255, 4351, 15615, 32767, 65535, 131071, 262143] [(0, 0), (1, 0), (2, 0), (3, 0), (4, 0), (5, 1), (6, 0), (7, 0), (8, 0), (9, 0), (10, 0), (11, 0), (12, 0), (13, 0), (14, 1), (15, 1), (16, 0), (17, 0), (18, 0)] [] hs cQ (by kernel_rfl) (by kernel_rfl) (by kernel_rfl) (by kernel_rfl) (by kernel_rfl) ?_)) | (refine bU (fun W hs => ?_)) | (refine cM rfl rfl gb rfl ?_) | (refine cU rfl rfl gb rfl ?_) | (refine cE rfl rfl (fun hq => ?_) (fun hq => ?_); (fail_if_success (exact absurd (by clear hq; first | assumption | omega) (not_not_intro hq))); rotate_left; (fail_if_success (exact absurd (by clear hq; first | assumption | omega) hq)); rotate_left) | (apply cB))
            all_goals refine aM Tryz.func167 rfl (.tmp rfl .nil) ⟨rfl, hs.frm.ext⟩
          have hke : decide ((s.1, (k0 : Int) + 1) ∈ yj.2.2.2) = true := decide_eq_true hin
          rw [hke] at hst
          by_cases hty : yj.2.1 = ZL
          rotate_left
          · have hte : decide (yj.2.1 = ZL) = false := decide_eq_false hty
            rw [eC (k := k) (by omega) (by rw [hst, hte]; rfl)]
            repeat' (first | ((apply ax_c; apply bY 56; exact rfl; exact rfl; exact gb; (intro W X hN hs; exact aA en56 rfl (dT _ (some ⟨p, o, none⟩) n c N s.2 (h.st hs) hso.2)); (rintro _ _ _ _ ⟨rfl, hE⟩; first | exact hE | exact Fresh.ext hf); rintro W X _ _ hN hs ⟨rfl, hE⟩; rw [his]; have hs := hs.ext hE; (try simp only [zcc] at hs); refine JX.at hs ?_)) | ((apply ax_c; apply bY 29; exact rfl; exact rfl; exact gb; (intro W X hN hs; exact aA en29 rfl (fD _ r0.2.1.1 r0.2.1.2.1 r0.2.1.2.2 T s.1 (mT.st hs))); (rintro _ _ _ _ ⟨rfl, hE⟩; first | exact hE | exact Fresh.ext hf); rintro W X _ _ hN hs ⟨rfl, hE⟩; rw [hhas]; have hs := hs.ext hE; (try simp only [zcc] at hs); refine JX.at hs ?_)) | ((apply ax_c; apply bY 218; exact rfl; exact rfl; exact gb; (intro W X hN hs; exact aA yN rfl (qT _ rj.2.2.2.1 rj.2.2.2.2.1 rj.2.2.2.2.2 yj.2.2.2 (s.1, (k0 : Int) + 1) (mj3.st hs))); (rintro _ _ _ _ ⟨rfl, hE⟩; first | exact hE | exact Fresh.ext hf); rintro W X _ _ hN hs ⟨rfl, hE⟩; rw [hke]; have hs := hs.ext hE; (try simp only [zcc] at hs); refine JX.at hs ?_)) | ((apply ax_c; apply bY 103; exact rfl; exact rfl; exact gb; (intro W X hN hs; exact aA en103 rfl (rH _ r0.2.1.1 r0.2.1.2.1 r0.2.1.2.2 T s.1 (mT.st hs) (by omega))); (rintro _ _ _ _ ⟨aw, cw, rfl, hf⟩; first | exact hE | exact Fresh.ext hf); rintro W X _ _ hN hs ⟨aw, cw, rfl, hf⟩; rw [← hZL] at hf; rw [← hZL]; have hs := hs.fresh hf; (try simp only [zcc] at hs); refine JX.at hs ?_)) | ((apply ax_c; apply bY 134; exact rfl; exact rfl; exact gb; (intro W X hN hs; exact aA lQ rfl (fN _ rj.2.1.1 aw rj.2.1.2.1 rj.2.1.2.2 ZL.length cw yj.2.1 ZL (mj1.st hs) (slU hs zmm hZo))); (rintro _ _ _ _ ⟨rfl, hE⟩; first | exact hE | exact Fresh.ext hf); rintro W X _ _ hN hs ⟨rfl, hE⟩; rw [hte]; have hs := hs.ext hE; (try simp only [zcc] at hs); refine JX.at hs ?_)) | (apply aH) | ((first | (apply aC) | (apply JX_f; exact rfl; intro W X hs) | (apply dB; exact rfl; exact rfl; exact gb; intro W X hs)); (first | (apply aT; first | exact aX (i := ((k : Int) - 1).toNat) (j := 0) (hrow.st hs) (hprev (by assumption)) rfl rfl rfl aI | exact aO (i := k) (hrow.st hs) hv rfl rfl aI | exact aO (i := (s.2 - 1).toNat) (hr.st hs) hrj rfl rfl aI) | exact zop); first | (exact rfl; exact rfl) | exact rfl) | (apply aQ) | (apply aB) | (apply aN) | (apply aV) | (apply aF (t := 11); refine JL_o (by apply aR; exact aJ hs) rfl rfl ?_; rintro _ _ ⟨b11, rfl, hb11, hs, hE⟩) | (apply aF (t := 12); refine JL_o (by apply aR; exact aJ hs) rfl rfl ?_; rintro _ _ ⟨b12, rfl, hb12, hs, hE⟩) | (apply aF (t := 13); refine JL_o (by apply aR; exact aJ hs) rfl rfl ?_; rintro _ _ ⟨b13, rfl, hb13, hs, hE⟩) | (apply aU; refine JL_u (by apply aP; exact aK hs rfl rfl rfl) rfl ?_; rintro _ _ ⟨hs, hF⟩) | (apply aG; first | refine aS rfl ob ?_ | refine bB rfl gb ?_ | refine bD rfl gb ?_) | (apply bV; first | (refine bQ (id := 5) [0, 1, 3, 7, 7, 23, 63, 127, 255, 7, 519, 2047, 4095, 8191, 16383, 16383, 49151, 131071, 262143, 524287, 1048575, 2097151, 4194303, 2097151, 10485759, 33554431, 2097151, 134217727, 268435455] [(0, 0), (1, 0), (2, 0), (3, 0), (4, 0), (5, 0), (6, 0), (7, 0), (8, 0), (9, 0), (10, 0), (11, 0), (12, 0), (13, 0), (14, 0), (15, 0), (16, 0), (17, 1), (18, 0), (19, 0), (20, 0), (21, 0), (22, 0), (23, 0), (24, 0), (26, 0), (25, 1), (27, 0), (28, 0)] [] hs cQ (by kernel_rfl) (by kernel_rfl) (by kernel_rfl) (by kernel_rfl) (by kernel_rfl) ?_) | (refine bQ (id := 9) [0, 1, 3, 7, 3, 31, 63, 127, 255, 511, 255, 1279, 255, 4351, 15615, 32767, 65535, 131071, 262143] [(0, 0), (1, 0), (2, 0), (3, 0), (4, 0), (5, 1), (6, 0), (7, 0), (8, 0), (9, 0), (10, 0), (11, 0), (12, 0), (13, 0), (14, 1), (15, 1), (16, 0), (17, 0), (18, 0)] [] hs cQ (by kernel_rfl) (by kernel_rfl) (by kernel_rfl) (by kernel_rfl) (by kernel_rfl) ?_)) | (refine bU (fun W hs => ?_)) | (refine cM rfl rfl gb rfl ?_) | (refine cE rfl rfl (fun hq => ?_) (fun hq => ?_); (fail_if_success (exact absurd (by clear hq; first | assumption | omega) (not_not_intro hq))); rotate_left; (fail_if_success (exact absurd (by clear hq; first | assumption | omega) hq)); rotate_left) | (apply cB))
            all_goals refine aM Tryz.func167 rfl (.tmp rfl .nil) ⟨rfl, hs.frm.ext⟩
          have hte : decide (yj.2.1 = ZL) = true := decide_eq_true hty
          rw [hte] at hst
          repeat' (first | ((apply ax_c; apply bY 56; exact rfl; exact rfl; exact gb; (intro W X hN hs; exact aA en56 rfl (dT _ (some ⟨p, o, none⟩) n c N s.2 (h.st hs) hso.2)); (rintro _ _ _ _ ⟨rfl, hE⟩; first | exact hE | exact Fresh.ext hf); rintro W X _ _ hN hs ⟨rfl, hE⟩; rw [his]; have hs := hs.ext hE; (try simp only [zcc] at hs); refine JX.at hs ?_)) | ((apply ax_c; apply bY 29; exact rfl; exact rfl; exact gb; (intro W X hN hs; exact aA en29 rfl (fD _ r0.2.1.1 r0.2.1.2.1 r0.2.1.2.2 T s.1 (mT.st hs))); (rintro _ _ _ _ ⟨rfl, hE⟩; first | exact hE | exact Fresh.ext hf); rintro W X _ _ hN hs ⟨rfl, hE⟩; rw [hhas]; have hs := hs.ext hE; (try simp only [zcc] at hs); refine JX.at hs ?_)) | ((apply ax_c; apply bY 218; exact rfl; exact rfl; exact gb; (intro W X hN hs; exact aA yN rfl (qT _ rj.2.2.2.1 rj.2.2.2.2.1 rj.2.2.2.2.2 yj.2.2.2 (s.1, (k0 : Int) + 1) (mj3.st hs))); (rintro _ _ _ _ ⟨rfl, hE⟩; first | exact hE | exact Fresh.ext hf); rintro W X _ _ hN hs ⟨rfl, hE⟩; rw [hke]; have hs := hs.ext hE; (try simp only [zcc] at hs); refine JX.at hs ?_)) | ((apply ax_c; apply bY 103; exact rfl; exact rfl; exact gb; (intro W X hN hs; exact aA en103 rfl (rH _ r0.2.1.1 r0.2.1.2.1 r0.2.1.2.2 T s.1 (mT.st hs) (by omega))); (rintro _ _ _ _ ⟨aw, cw, rfl, hf⟩; first | exact hE | exact Fresh.ext hf); rintro W X _ _ hN hs ⟨aw, cw, rfl, hf⟩; rw [← hZL] at hf; rw [← hZL]; have hs := hs.fresh hf; (try simp only [zcc] at hs); refine JX.at hs ?_)) | ((apply ax_c; apply bY 134; exact rfl; exact rfl; exact gb; (intro W X hN hs; exact aA lQ rfl (fN _ rj.2.1.1 aw rj.2.1.2.1 rj.2.1.2.2 ZL.length cw yj.2.1 ZL (mj1.st hs) (slU hs zmm hZo))); (rintro _ _ _ _ ⟨rfl, hE⟩; first | exact hE | exact Fresh.ext hf); rintro W X _ _ hN hs ⟨rfl, hE⟩; rw [hte]; have hs := hs.ext hE; (try simp only [zcc] at hs); refine JX.at hs ?_)) | (apply aH) | ((first | (apply aC) | (apply JX_f; exact rfl; intro W X hs) | (apply dB; exact rfl; exact rfl; exact gb; intro W X hs)); (first | (apply aT; first | exact aX (i := ((k : Int) - 1).toNat) (j := 0) (hrow.st hs) (hprev (by assumption)) rfl rfl rfl aI | exact aO (i := k) (hrow.st hs) hv rfl rfl aI | exact aO (i := (s.2 - 1).toNat) (hr.st hs) hrj rfl rfl aI) | exact zop); first | (exact rfl; exact rfl) | exact rfl) | (apply aQ) | (apply aB) | (apply aN) | (apply aW) | (apply aV) | (apply aF (t := 11); refine JL_o (by apply aR; exact aJ hs) rfl rfl ?_; rintro _ _ ⟨b11, rfl, hb11, hs, hE⟩) | (apply aF (t := 12); refine JL_o (by apply aR; exact aJ hs) rfl rfl ?_; rintro _ _ ⟨b12, rfl, hb12, hs, hE⟩) | (apply aF (t := 13); refine JL_o (by apply aR; exact aJ hs) rfl rfl ?_; rintro _ _ ⟨b13, rfl, hb13, hs, hE⟩) | (apply aU; refine JL_u (by apply aP; exact aK hs rfl rfl rfl) rfl ?_; rintro _ _ ⟨hs, hF⟩) | (apply aG; first | refine aS rfl ob ?_ | refine bD rfl gb ?_) | (apply bV; first | (refine bQ (id := 5) [0, 1, 3, 7, 7, 23, 63, 127, 255, 7, 519, 2047, 4095, 8191, 16383, 16383, 49151, 131071, 262143, 524287, 1048575, 2097151, 4194303, 2097151, 10485759, 33554431, 2097151, 134217727, 268435455] [(0, 0), (1, 0), (2, 0), (3, 0), (4, 0), (5, 0), (6, 0), (7, 0), (8, 0), (9, 0), (10, 0), (11, 0), (12, 0), (13, 0), (14, 0), (15, 0), (16, 0), (17, 1), (18, 0), (19, 0), (20, 0), (21, 0), (22, 0), (23, 0), (24, 0), (26, 0), (25, 1), (27, 0), (28, 0)] [] hs cQ (by kernel_rfl) (by kernel_rfl) (by kernel_rfl) (by kernel_rfl) (by kernel_rfl) ?_) | (refine bQ (id := 9) [0, 1, 3, 7, 3, 31, 63, 127, 255, 511, 255, 1279, 255, 4351, 15615, 32767, 65535, 131071, 262143] [(0, 0), (1, 0), (2, 0), (3, 0), (4, 0), (5, 1), (6, 0), (7, 0), (8, 0), (9, 0), (10, 0), (11, 0), (12, 0), (13, 0), (14, 1), (15, 1), (16, 0), (17, 0), (18, 0)] [] hs cQ (by kernel_rfl) (by kernel_rfl) (by kernel_rfl) (by kernel_rfl) (by kernel_rfl) ?_) | (refine bQ (id := 11) [0, 1, 3, 7, 15, 7, 63, 127, 255, 511, 1023, 511, 2559, 511, 8703, 31231, 65535, 131071, 262143, 524287] [(0, 0), (1, 0), (2, 0), (3, 0), (4, 0), (5, 0), (6, 1), (7, 0), (8, 0), (9, 0), (10, 0), (11, 0), (12, 0), (13, 0), (14, 0), (15, 1), (16, 1), (17, 0), (18, 0), (19, 0)] [] hs cQ (by kernel_rfl) (by kernel_rfl) (by kernel_rfl) (by kernel_rfl) (by kernel_rfl) ?_)) | (refine bU (fun W hs => ?_)) | (refine oN rfl rfl rfl ?_) | (refine oO rfl rfl rfl ?_) | (refine cM rfl rfl gb rfl ?_) | (refine cU rfl rfl gb rfl ?_) | (refine cE rfl rfl (fun hq => ?_) (fun hq => ?_); (fail_if_success (exact absurd (by clear hq; first | assumption | omega) (not_not_intro hq))); rotate_left; (fail_if_success (exact absurd (by clear hq; first | assumption | omega) hq)); rotate_left) | (apply cB))
          all_goals refine ih (k + 1) _ _ ⟨hs.sel [4] (by decide), hlt, fun j2 hj2 => ?_⟩ (by omega) zss
          all_goals
            by_cases e : j2 = k
            · rw [e, hst]; rfl
            · exact hall j2 (by omega)
    | false =>
      cases ib with
      | false =>
        rw [eC (k := k) (by omega) (by rw [hst]; rfl)]
        repeat' (first | ((apply ax_c; apply bY 56; exact rfl; exact rfl; exact gb; (intro W X hN hs; exact aA en56 rfl (dT _ (some ⟨p, o, none⟩) n c N s.2 (h.st hs) hso.2)); (rintro _ _ _ _ ⟨rfl, hE⟩; first | exact hE | exact Fresh.ext hf); rintro W X _ _ hN hs ⟨rfl, hE⟩; rw [his]; have hs := hs.ext hE; (try simp only [zcc] at hs); refine JX.at hs ?_)) | (apply aH) | ((first | (apply aC) | (apply JX_f; exact rfl; intro W X hs) | (apply dB; exact rfl; exact rfl; exact gb; intro W X hs)); (first | (apply aT; first | exact aX (i := ((k : Int) - 1).toNat) (j := 0) (hrow.st hs) (hprev (by assumption)) rfl rfl rfl aI | exact aO (i := k) (hrow.st hs) hv rfl rfl aI) | exact zop); first | (exact rfl; exact rfl) | exact rfl) | (apply aQ) | (apply aB) | (apply aN) | (apply aV) | (apply aF (t := 11); refine JL_o (by apply aR; exact aJ hs) rfl rfl ?_; rintro _ _ ⟨b11, rfl, hb11, hs, hE⟩) | (apply aU; refine JL_u (by apply aP; exact aK hs rfl rfl rfl) rfl ?_; rintro _ _ ⟨hs, hF⟩) | (apply aG; first | refine aS rfl ob ?_ | refine bB rfl gb ?_) | (apply bV; (refine bQ (id := 5) [0, 1, 3, 7, 7, 23, 63, 127, 255, 7, 519, 2047, 4095, 8191, 16383, 16383, 49151, 131071, 262143, 524287, 1048575, 2097151, 4194303, 2097151, 10485759, 33554431, 2097151, 134217727, 268435455] [(0, 0), (1, 0), (2, 0), (3, 0), (4, 0), (5, 0), (6, 0), (7, 0), (8, 0), (9, 0), (10, 0), (11, 0), (12, 0), (13, 0), (14, 0), (15, 0), (16, 0), (17, 1), (18, 0), (19, 0), (20, 0), (21, 0), (22, 0), (23, 0), (24, 0), (26, 0), (25, 1), (27, 0), (28, 0)] [] hs cQ (by kernel_rfl) (by kernel_rfl) (by kernel_rfl) (by kernel_rfl) (by kernel_rfl) ?_)) | (refine bU (fun W hs => ?_)) | (refine cM rfl rfl gb rfl ?_) | (refine cU rfl rfl gb rfl ?_) | (refine cE rfl rfl (fun hq => ?_) (fun hq => ?_); (fail_if_success (exact absurd (by clear hq; first | assumption | omega) (not_not_intro hq))); rotate_left; (fail_if_success (exact absurd (by clear hq; first | assumption | omega) hq)); rotate_left) | (apply cB))
        all_goals refine aM Tryz.func167 rfl (.tmp rfl .nil) ⟨rfl, hs.frm.ext⟩
      | true =>
        obtain ⟨j, yj, hj, hyj, hyu⟩ := isM_true.1 his
        have hjl := (List.getElem?_eq_some_iff.1 hyj).1
        obtain ⟨rj, hrj0, f1, f2, f3, f4⟩ := hm.get hyj
        have mj1 : Sl dId All w rj.2.1.1 rj.2.1.2.1 rj.2.1.2.2 yj.2.1 := f2
        have mj2 : Sl dStp All w rj.2.2.1.1 rj.2.2.1.2.1 rj.2.2.1.2.2 yj.2.2.1 := f3
        have mj3 : Sl dStp All w rj.2.2.2.1 rj.2.2.2.2.1 rj.2.2.2.2.2 yj.2.2.2 := f4
        have hrj : rs[(s.2 - 1).toNat]? = some rj := by rw [hj, show ((j : Int) + 1 - 1).toNat = j by omega]; exact hrj0
        have hsj : 1 ≤ s.2 ∧ s.2 ≤ n := by omega
        have hnj : cZ N s.2 = yj := by rw [hj]; exact cO hyj
        rw [hnj] at hst
        cases hb with
        | false =>
          rw [eC (k := k) (by omega) (by rw [hst]; rfl)]
          repeat' (first | ((apply ax_c; apply bY 56; exact rfl; exact rfl; exact gb; (intro W X hN hs; exact aA en56 rfl (dT _ (some ⟨p, o, none⟩) n c N s.2 (h.st hs) hso.2)); (rintro _ _ _ _ ⟨rfl, hE⟩; first | exact hE | exact Fresh.ext hf); rintro W X _ _ hN hs ⟨rfl, hE⟩; rw [his]; have hs := hs.ext hE; (try simp only [zcc] at hs); refine JX.at hs ?_)) | ((apply ax_c; apply bY 29; exact rfl; exact rfl; exact gb; (intro W X hN hs; exact aA en29 rfl (fD _ r0.2.1.1 r0.2.1.2.1 r0.2.1.2.2 T s.1 (mT.st hs))); (rintro _ _ _ _ ⟨rfl, hE⟩; first | exact hE | exact Fresh.ext hf); rintro W X _ _ hN hs ⟨rfl, hE⟩; rw [hhas]; have hs := hs.ext hE; (try simp only [zcc] at hs); refine JX.at hs ?_)) | (apply aH) | ((first | (apply aC) | (apply JX_f; exact rfl; intro W X hs) | (apply dB; exact rfl; exact rfl; exact gb; intro W X hs)); (first | (apply aT; first | exact aX (i := ((k : Int) - 1).toNat) (j := 0) (hrow.st hs) (hprev (by assumption)) rfl rfl rfl aI | exact aO (i := k) (hrow.st hs) hv rfl rfl aI) | exact zop); first | (exact rfl; exact rfl) | exact rfl) | (apply aQ) | (apply aB) | (apply aN) | (apply aV) | (apply aF (t := 11); refine JL_o (by apply aR; exact aJ hs) rfl rfl ?_; rintro _ _ ⟨b11, rfl, hb11, hs, hE⟩) | (apply aU; refine JL_u (by apply aP; exact aK hs rfl rfl rfl) rfl ?_; rintro _ _ ⟨hs, hF⟩) | (apply aG; first | refine aS rfl ob ?_ | refine bB rfl gb ?_) | (apply bV; (refine bQ (id := 5) [0, 1, 3, 7, 7, 23, 63, 127, 255, 7, 519, 2047, 4095, 8191, 16383, 16383, 49151, 131071, 262143, 524287, 1048575, 2097151, 4194303, 2097151, 10485759, 33554431, 2097151, 134217727, 268435455] [(0, 0), (1, 0), (2, 0), (3, 0), (4, 0), (5, 0), (6, 0), (7, 0), (8, 0), (9, 0), (10, 0), (11, 0), (12, 0), (13, 0), (14, 0), (15, 0), (16, 0), (17, 1), (18, 0), (19, 0), (20, 0), (21, 0), (22, 0), (23, 0), (24, 0), (26, 0), (25, 1), (27, 0), (28, 0)] [] hs cQ (by kernel_rfl) (by kernel_rfl) (by kernel_rfl) (by kernel_rfl) (by kernel_rfl) ?_)) | (refine bU (fun W hs => ?_)) | (refine cM rfl rfl gb rfl ?_) | (refine cE rfl rfl (fun hq => ?_) (fun hq => ?_); (fail_if_success (exact absurd (by clear hq; first | assumption | omega) (not_not_intro hq))); rotate_left; (fail_if_success (exact absurd (by clear hq; first | assumption | omega) hq)); rotate_left) | (apply cB))
          all_goals refine aM Tryz.func167 rfl (.tmp rfl .nil) ⟨rfl, hs.frm.ext⟩
        | true =>
          obtain ⟨ZL, hZL⟩ : ∃ z, z = outT T s.1 := ⟨_, rfl⟩
          have hzl : fZ false T s.1 = ZL := by rw [hZL]; rfl
          have hbk : sS yj false = yj.2.2.1 := rfl
          have hZo : ∀ x ∈ ZL, okId x := by rw [hZL]; exact (fun x hx => jW mT x (outT_mem.1 hx).1)
          rw [hzl, hbk] at hst
          by_cases hin : (s.1, (k0 : Int) + 1) ∈ yj.2.2.1
          rotate_left
          · have hke : decide ((s.1, (k0 : Int) + 1) ∈ yj.2.2.1) = false := decide_eq_false hin
            rw [eC (k := k) (by omega) (by rw [hst, hke]; rfl)]
            repeat' (first | ((apply ax_c; apply bY 56; exact rfl; exact rfl; exact gb; (intro W X hN hs; exact aA en56 rfl (dT _ (some ⟨p, o, none⟩) n c N s.2 (h.st hs) hso.2)); (rintro _ _ _ _ ⟨rfl, hE⟩; first | exact hE | exact Fresh.ext hf); rintro W X _ _ hN hs ⟨rfl, hE⟩; rw [his]; have hs := hs.ext hE; (try simp only [zcc] at hs); refine JX.at hs ?_)) | ((apply ax_c; apply bY 29; exact rfl; exact rfl; exact gb; (intro W X hN hs; exact aA en29 rfl (fD _ r0.2.1.1 r0.2.1.2.1 r0.2.1.2.2 T s.1 (mT.st hs))); (rintro _ _ _ _ ⟨rfl, hE⟩; first | exact hE | exact Fresh.ext hf); rintro W X _ _ hN hs ⟨rfl, hE⟩; rw [hhas]; have hs := hs.ext hE; (try simp only [zcc] at hs); refine JX.at hs ?_)) | ((apply ax_c; apply bY 218; exact rfl; exact rfl; exact gb; (intro W X hN hs; exact aA yN rfl (qT _ rj.2.2.1.1 rj.2.2.1.2.1 rj.2.2.1.2.2 yj.2.2.1 (s.1, (k0 : Int) + 1) (mj2.st hs))); (rintro _ _ _ _ ⟨rfl, hE⟩; first | exact hE | exact Fresh.ext hf); rintro W X _ _ hN hs ⟨rfl, hE⟩; rw [hke]; have hs := hs.ext hE; (try simp only [zcc] at hs); refine JX.at hs ?_)) | (apply aH) | ((first | (apply aC) | (apply JX_f; exact rfl; intro W X hs) | (apply dB; exact rfl; exact rfl; exact gb; intro W X hs)); (first | (apply aT; first | exact aX (i := ((k : Int) - 1).toNat) (j := 0) (hrow.st hs) (hprev (by assumption)) rfl rfl rfl aI | exact aO (i := k) (hrow.st hs) hv rfl rfl aI | exact aO (i := (s.2 - 1).toNat) (hr.st hs) hrj rfl rfl aI) | exact zop); first | (exact rfl; exact rfl) | exact rfl) | (apply aQ) | (apply aB) | (apply aN) | (apply aV) | (apply aF (t := 11); refine JL_o (by apply aR; exact aJ hs) rfl rfl ?_; rintro _ _ ⟨b11, rfl, hb11, hs, hE⟩) | (apply aF (t := 12); refine JL_o (by apply aR; exact aJ hs) rfl rfl ?_; rintro _ _ ⟨b12, rfl, hb12, hs, hE⟩) | (apply aF (t := 13); refine JL_o (by apply aR; exact aJ hs) rfl rfl ?_; rintro _ _ ⟨b13, rfl, hb13, hs, hE⟩) | (apply aU; refine JL_u (by apply aP; exact aK hs rfl rfl rfl) rfl ?_; rintro _ _ ⟨hs, hF⟩) | (apply aG; first | refine aS rfl ob ?_ | refine bB rfl gb ?_ | refine bD rfl gb ?_) | (apply bV; first | (refine bQ (id := 5) [0, 1, 3, 7, 7, 23, 63, 127, 255, 7, 519, 2047, 4095, 8191, 16383, 16383, 49151, 131071, 262143, 524287, 1048575, 2097151, 4194303, 2097151, 10485759, 33554431, 2097151, 134217727, 268435455] [(0, 0), (1, 0), (2, 0), (3, 0), (4, 0), (5, 0), (6, 0), (7, 0), (8, 0), (9, 0), (10, 0), (11, 0), (12, 0), (13, 0), (14, 0), (15, 0), (16, 0), (17, 1), (18, 0), (19, 0), (20, 0), (21, 0), (22, 0), (23, 0), (24, 0), (26, 0), (25, 1), (27, 0), (28, 0)] [] hs cQ (by kernel_rfl) (by kernel_rfl) (by kernel_rfl) (by kernel_rfl) (by kernel_rfl) ?_) | (refine bQ (id := 9) [0, 1, 3, 7, 3, 31, 63, 127, 255, 511, 255, 1279, 255, 4351, 15615, 32767, 65535, 131071, 262143] [(0, 0), (1, 0), (2, 0), (3, 0), (4, 0), (5, 1), (6, 0), (7, 0), (8, 0), (9, 0), (10, 0), (11, 0), (12, 0), (13, 0), (14, 1), (15, 1), (16, 0), (17, 0), (18, 0)] [] hs cQ (by kernel_rfl) (by kernel_rfl) (by kernel_rfl) (by kernel_rfl) (by kernel_rfl) ?_) | (refine bQ (id := 11) [0, 1, 3, 7, 15, 7, 63, 127, 255, 511, 1023, 511, 2559, 511, 8703, 31231, 65535, 131071, 262143, 524287] [(0, 0), (1, 0), (2, 0), (3, 0), (4, 0), (5, 0), (6, 1), (7, 0), (8, 0), (9, 0), (10, 0), (11, 0), (12, 0), (13, 0), (14, 0), (15, 1), (16, 1), (17, 0), (18, 0), (19, 0)] [] hs cQ (by kernel_rfl) (by kernel_rfl) (by kernel_rfl) (by kernel_rfl) (by kernel_rfl) ?_)) | (refine bU (fun W hs => ?_)) | (refine oN rfl rfl rfl ?_) | (refine oO rfl rfl rfl ?_) | (refine cM rfl rfl gb rfl ?_) | (refine cU rfl rfl gb rfl ?_) | (refine cE rfl rfl (fun hq => ?_) (fun hq => ?_); (fail_if_success (exact absurd (by clear hq; first | assumption | omega) (not_not_intro hq))); rotate_left; (fail_if_success (exact absurd (by clear hq; first | assumption | omega) hq)); rotate_left) | (apply cB))
            all_goals refine aM Tryz.func167 rfl (.tmp rfl .nil) ⟨rfl, hs.frm.ext⟩
          have hke : decide ((s.1, (k0 : Int) + 1) ∈ yj.2.2.1) = true := decide_eq_true hin
          rw [hke] at hst
          by_cases hty : yj.2.1 = ZL
          rotate_left
          · have hte : decide (yj.2.1 = ZL) = false := decide_eq_false hty
            rw [eC (k := k) (by omega) (by rw [hst, hte]; rfl)]
            repeat' (first | ((apply ax_c; apply bY 56; exact rfl; exact rfl; exact gb; (intro W X hN hs; exact aA en56 rfl (dT _ (some ⟨p, o, none⟩) n c N s.2 (h.st hs) hso.2)); (rintro _ _ _ _ ⟨rfl, hE⟩; first | exact hE | exact Fresh.ext hf); rintro W X _ _ hN hs ⟨rfl, hE⟩; rw [his]; have hs := hs.ext hE; (try simp only [zcc] at hs); refine JX.at hs ?_)) | ((apply ax_c; apply bY 29; exact rfl; exact rfl; exact gb; (intro W X hN hs; exact aA en29 rfl (fD _ r0.2.1.1 r0.2.1.2.1 r0.2.1.2.2 T s.1 (mT.st hs))); (rintro _ _ _ _ ⟨rfl, hE⟩; first | exact hE | exact Fresh.ext hf); rintro W X _ _ hN hs ⟨rfl, hE⟩; rw [hhas]; have hs := hs.ext hE; (try simp only [zcc] at hs); refine JX.at hs ?_)) | ((apply ax_c; apply bY 218; exact rfl; exact rfl; exact gb; (intro W X hN hs; exact aA yN rfl (qT _ rj.2.2.1.1 rj.2.2.1.2.1 rj.2.2.1.2.2 yj.2.2.1 (s.1, (k0 : Int) + 1) (mj2.st hs))); (rintro _ _ _ _ ⟨rfl, hE⟩; first | exact hE | exact Fresh.ext hf); rintro W X _ _ hN hs ⟨rfl, hE⟩; rw [hke]; have hs := hs.ext hE; (try simp only [zcc] at hs); refine JX.at hs ?_)) | ((apply ax_c; apply bY 102; exact rfl; exact rfl; exact gb; (intro W X hN hs; exact aA yT rfl (gS _ r0.2.1.1 r0.2.1.2.1 r0.2.1.2.2 T s.1 (mT.st hs) (by omega))); (rintro _ _ _ _ ⟨aw, cw, rfl, hf⟩; first | exact hE | exact Fresh.ext hf); rintro W X _ _ hN hs ⟨aw, cw, rfl, hf⟩; rw [← hZL] at hf; rw [← hZL]; have hs := hs.fresh hf; (try simp only [zcc] at hs); refine JX.at hs ?_)) | ((apply ax_c; apply bY 134; exact rfl; exact rfl; exact gb; (intro W X hN hs; exact aA lQ rfl (fN _ rj.2.1.1 aw rj.2.1.2.1 rj.2.1.2.2 ZL.length cw yj.2.1 ZL (mj1.st hs) (slU hs zmm hZo))); (rintro _ _ _ _ ⟨rfl, hE⟩; first | exact hE | exact Fresh.ext hf); rintro W X _ _ hN hs ⟨rfl, hE⟩; rw [hte]; have hs := hs.ext hE; (try simp only [zcc] at hs); refine JX.at hs ?_)) | (apply aH) | ((first | (apply aC) | (apply JX_f; exact rfl; intro W X hs) | (apply dB; exact rfl; exact rfl; exact gb; intro W X hs)); (first | (apply aT; first | exact aX (i := ((k : Int) - 1).toNat) (j := 0) (hrow.st hs) (hprev (by assumption)) rfl rfl rfl aI | exact aO (i := k) (hrow.st hs) hv rfl rfl aI | exact aO (i := (s.2 - 1).toNat) (hr.st hs) hrj rfl rfl aI) | exact zop); first | (exact rfl; exact rfl) | exact rfl) | (apply aQ) | (apply aB) | (apply aN) | (apply aV) | (apply aF (t := 11); refine JL_o (by apply aR; exact aJ hs) rfl rfl ?_; rintro _ _ ⟨b11, rfl, hb11, hs, hE⟩) | (apply aF (t := 12); refine JL_o (by apply aR; exact aJ hs) rfl rfl ?_; rintro _ _ ⟨b12, rfl, hb12, hs, hE⟩) | (apply aF (t := 13); refine JL_o (by apply aR; exact aJ hs) rfl rfl ?_; rintro _ _ ⟨b13, rfl, hb13, hs, hE⟩) | (apply aU; refine JL_u (by apply aP; exact aK hs rfl rfl rfl) rfl ?_; rintro _ _ ⟨hs, hF⟩) | (apply aG; first | refine aS rfl ob ?_ | refine bB rfl gb ?_ | refine bD rfl gb ?_) | (apply bV; first | (refine bQ (id := 5) [0, 1, 3, 7, 7, 23, 63, 127, 255, 7, 519, 2047, 4095, 8191, 16383, 16383, 49151, 131071, 262143, 524287, 1048575, 2097151, 4194303, 2097151, 10485759, 33554431, 2097151, 134217727, 268435455] [(0, 0), (1, 0), (2, 0), (3, 0), (4, 0), (5, 0), (6, 0), (7, 0), (8, 0), (9, 0), (10, 0), (11, 0), (12, 0), (13, 0), (14, 0), (15, 0), (16, 0), (17, 1), (18, 0), (19, 0), (20, 0), (21, 0), (22, 0), (23, 0), (24, 0), (26, 0), (25, 1), (27, 0), (28, 0)] [] hs cQ (by kernel_rfl) (by kernel_rfl) (by kernel_rfl) (by kernel_rfl) (by kernel_rfl) ?_) | (refine bQ (id := 9) [0, 1, 3, 7, 3, 31, 63, 127, 255, 511, 255, 1279, 255, 4351, 15615, 32767, 65535, 131071, 262143] [(0, 0), (1, 0), (2, 0), (3, 0), (4, 0), (5, 1), (6, 0), (7, 0), (8, 0), (9, 0), (10, 0), (11, 0), (12, 0), (13, 0), (14, 1), (15, 1), (16, 0), (17, 0), (18, 0)] [] hs cQ (by kernel_rfl) (by kernel_rfl) (by kernel_rfl) (by kernel_rfl) (by kernel_rfl) ?_) | (refine bQ (id := 11) [0, 1, 3, 7, 15, 7, 63, 127, 255, 511, 1023, 511, 2559, 511, 8703, 31231, 65535, 131071, 262143, 524287] [(0, 0), (1, 0), (2, 0), (3, 0), (4, 0), (5, 0), (6, 1), (7, 0), (8, 0), (9, 0), (10, 0), (11, 0), (12, 0), (13, 0), (14, 0), (15, 1), (16, 1), (17, 0), (18, 0), (19, 0)] [] hs cQ (by kernel_rfl) (by kernel_rfl) (by kernel_rfl) (by kernel_rfl) (by kernel_rfl) ?_)) | (refine bU (fun W hs => ?_)) | (refine oN rfl rfl rfl ?_) | (refine oO rfl rfl rfl ?_) | (refine cM rfl rfl gb rfl ?_) | (refine cU rfl rfl gb rfl ?_) | (refine cE rfl rfl (fun hq => ?_) (fun hq => ?_); (fail_if_success (exact absurd (by clear hq; first | assumption | omega) (not_not_intro hq))); rotate_left; (fail_if_success (exact absurd (by clear hq; first | assumption | omega) hq)); rotate_left) | (apply cB))
            all_goals refine aM Tryz.func167 rfl (.tmp rfl .nil) ⟨rfl, hs.frm.ext⟩
          have hte : decide (yj.2.1 = ZL) = true := decide_eq_true hty
          rw [hte] at hst
          repeat' (first | ((apply ax_c; apply bY 56; exact rfl; exact rfl; exact gb; (intro W X hN hs; exact aA en56 rfl (dT _ (some ⟨p, o, none⟩) n c N s.2 (h.st hs) hso.2)); (rintro _ _ _ _ ⟨rfl, hE⟩; first | exact hE | exact Fresh.ext hf); rintro W X _ _ hN hs ⟨rfl, hE⟩; rw [his]; have hs := hs.ext hE; (try simp only [zcc] at hs); refine JX.at hs ?_)) | ((apply ax_c; apply bY 29; exact rfl; exact rfl; exact gb; (intro W X hN hs; exact aA en29 rfl (fD _ r0.2.1.1 r0.2.1.2.1 r0.2.1.2.2 T s.1 (mT.st hs))); (rintro _ _ _ _ ⟨rfl, hE⟩; first | exact hE | exact Fresh.ext hf); rintro W X _ _ hN hs ⟨rfl, hE⟩; rw [hhas]; have hs := hs.ext hE; (try simp only [zcc] at hs); refine JX.at hs ?_)) | ((apply ax_c; apply bY 218; exact rfl; exact rfl; exact gb; (intro W X hN hs; exact aA yN rfl (qT _ rj.2.2.1.1 rj.2.2.1.2.1 rj.2.2.1.2.2 yj.2.2.1 (s.1, (k0 : Int) + 1) (mj2.st hs))); (rintro _ _ _ _ ⟨rfl, hE⟩; first | exact hE | exact Fresh.ext hf); rintro W X _ _ hN hs ⟨rfl, hE⟩; rw [hke]; have hs := hs.ext hE; (try simp only [zcc] at hs); refine JX.at hs ?_)) | ((apply ax_c; apply bY 102; exact rfl; exact rfl; exact gb; (intro W X hN hs; exact aA yT rfl (gS _ r0.2.1.1 r0.2.1.2.1 r0.2.1.2.2 T s.1 (mT.st hs) (by omega))); (rintro _ _ _ _ ⟨aw, cw, rfl, hf⟩; first | exact hE | exact Fresh.ext hf); rintro W X _ _ hN hs ⟨aw, cw, rfl, hf⟩; rw [← hZL] at hf; rw [← hZL]; have hs := hs.fresh hf; (try simp only [zcc] at hs); refine JX.at hs ?_)) | ((apply ax_c; apply bY 134; exact rfl; exact rfl; exact gb; (intro W X hN hs; exact aA lQ rfl (fN _ rj.2.1.1 aw rj.2.1.2.1 rj.2.1.2.2 ZL.length cw yj.2.1 ZL (mj1.st hs) (slU hs zmm hZo))); (rintro _ _ _ _ ⟨rfl, hE⟩; first | exact hE | exact Fresh.ext hf); rintro W X _ _ hN hs ⟨rfl, hE⟩; rw [hte]; have hs := hs.ext hE; (try simp only [zcc] at hs); refine JX.at hs ?_)) | (apply aH) | ((first | (apply aC) | (apply JX_f; exact rfl; intro W X hs) | (apply dB; exact rfl; exact rfl; exact gb; intro W X hs)); (first | (apply aT; first | exact aX (i := ((k : Int) - 1).toNat) (j := 0) (hrow.st hs) (hprev (by assumption)) rfl rfl rfl aI | exact aO (i := k) (hrow.st hs) hv rfl rfl aI | exact aO (i := (s.2 - 1).toNat) (hr.st hs) hrj rfl rfl aI) | exact zop); first | (exact rfl; exact rfl) | exact rfl) | (apply aQ) | (apply aB) | (apply aN) | (apply aW) | (apply aV) | (apply aF (t := 11); refine JL_o (by apply aR; exact aJ hs) rfl rfl ?_; rintro _ _ ⟨b11, rfl, hb11, hs, hE⟩) | (apply aF (t := 12); refine JL_o (by apply aR; exact aJ hs) rfl rfl ?_; rintro _ _ ⟨b12, rfl, hb12, hs, hE⟩) | (apply aF (t := 13); refine JL_o (by apply aR; exact aJ hs) rfl rfl ?_; rintro _ _ ⟨b13, rfl, hb13, hs, hE⟩) | (apply aU; refine JL_u (by apply aP; exact aK hs rfl rfl rfl) rfl ?_; rintro _ _ ⟨hs, hF⟩) | (apply aG; first | refine aS rfl ob ?_ | refine bD rfl gb ?_) | (apply bV; first | (refine bQ (id := 5) [0, 1, 3, 7, 7, 23, 63, 127, 255, 7, 519, 2047, 4095, 8191, 16383, 16383, 49151, 131071, 262143, 524287, 1048575, 2097151, 4194303, 2097151, 10485759, 33554431, 2097151, 134217727, 268435455] [(0, 0), (1, 0), (2, 0), (3, 0), (4, 0), (5, 0), (6, 0), (7, 0), (8, 0), (9, 0), (10, 0), (11, 0), (12, 0), (13, 0), (14, 0), (15, 0), (16, 0), (17, 1), (18, 0), (19, 0), (20, 0), (21, 0), (22, 0), (23, 0), (24, 0), (26, 0), (25, 1), (27, 0), (28, 0)] [] hs cQ (by kernel_rfl) (by kernel_rfl) (by kernel_rfl) (by kernel_rfl) (by kernel_rfl) ?_) | (refine bQ (id := 9) [0, 1, 3, 7, 3, 31, 63, 127, 255, 511, 255, 1279, 255, 4351, 15615, 32767, 65535, 131071, 262143] [(0, 0), (1, 0), (2, 0), (3, 0), (4, 0), (5, 1), (6, 0), (7, 0), (8, 0), (9, 0), (10, 0), (11, 0), (12, 0), (13, 0), (14, 1), (15, 1), (16, 0), (17, 0), (18, 0)] [] hs cQ (by kernel_rfl) (by kernel_rfl) (by kernel_rfl) (by kernel_rfl) (by kernel_rfl) ?_) | (refine bQ (id := 11) [0, 1, 3, 7, 15, 7, 63, 127, 255, 511, 1023, 511, 2559, 511, 8703, 31231, 65535, 131071, 262143, 524287] [(0, 0), (1, 0), (2, 0), (3, 0), (4, 0), (5, 0), (6, 1), (7, 0), (8, 0), (9, 0), (10, 0), (11, 0), (12, 0), (13, 0), (14, 0), (15, 1), (16, 1), (17, 0), (18, 0), (19, 0)] [] hs cQ (by kernel_rfl) (by kernel_rfl) (by kernel_rfl) (by kernel_rfl) (by kernel_rfl) ?_)) | (refine bU (fun W hs => ?_)) | (refine oN rfl rfl rfl ?_) | (refine oO rfl rfl rfl ?_) | (refine cM rfl rfl gb rfl ?_) | (refine cU rfl rfl gb rfl ?_) | (refine cE rfl rfl (fun hq => ?_) (fun hq => ?_); (fail_if_success (exact absurd (by clear hq; first | assumption | omega) (not_not_intro hq))); rotate_left; (fail_if_success (exact absurd (by clear hq; first | assumption | omega) hq)); rotate_left) | (apply cB))
          all_goals refine ih (k + 1) _ _ ⟨hs.sel [4] (by decide), hlt, fun j2 hj2 => ?_⟩ (by omega) zss
          all_goals
            by_cases e : j2 = k
            · rw [e, hst]; rfl
            · exact hall j2 (by omega)
  · have hf : gO N ((k0 : Int) + 1) row plus = true := stepsR_true.2 (fun j hj => hall j (by omega))
    rw [hf]
    repeat' (first | (apply aH) | ((apply aC); exact zop; first | (exact rfl; exact rfl) | exact rfl) | (apply aQ) | (apply aB) | (apply bG; refine bP rfl ?_) | (apply aG; refine aZ rfl ob ?_))
    refine aM Tryz.func167 rfl (.tmp rfl .nil) ⟨rfl, hs.frm.ext⟩
end Go.Eng
end
