/- The texts K1, K2, K3, K4, K5, K6, K7, K8, K9, joined. -/
import Derived.Test.YtcoldgkhlkjjmaaGreatX1
import Derived.Test.YtcoldgkhlkjjmaaGreatE27
/- Referrers, plain: rows of what is held, and which referrers may be. -/
namespace Go.Eng
open Go.Proofs
set_option linter.unusedSimpArgs false
set_option linter.unusedVariables false
abbrev HH := Int × Int
abbrev RH := Int × List HH
def aheadH (a b : HH) : Bool := decide (a.1 < b.1 ∨ (a.1 = b.1 ∧ a.2 < b.2))
theorem ahead_iff {a b : HH} : aheadH a b = true ↔ a.1 < b.1 ∨ (a.1 = b.1 ∧ a.2 < b.2) := decide_eq_true_iff
theorem ahead_irr (a : HH) : ¬ aheadH a a = true := by rw [ahead_iff]; omega
theorem ahead_trans {a b c : HH} (h1 : aheadH a b = true) (h2 : aheadH b c = true) : aheadH a c = true := by rw [ahead_iff] at *; omega
theorem ahead_asym {a b : HH} (h1 : aheadH a b = true) : ¬ aheadH b a = true := by rw [ahead_iff] at *; omega
theorem ahead_tri (a b : HH) : aheadH a b = true ∨ a = b ∨ aheadH b a = true := by
  obtain ⟨a1, a2⟩ := a
  obtain ⟨b1, b2⟩ := b
  simp only [ahead_iff, Prod.mk.injEq]
  omega
/-- Rows in strict order are told by what stands in them. -/
theorem strict_uniq {α : Type} {lt : α → α → Prop} (irr : ∀ a, ¬ lt a a) (tr : ∀ {a b c}, lt a b → lt b c → lt a c) : ∀ {l1 l2 : List α}, l1.Pairwise lt → l2.Pairwise lt → (∀ x, x ∈ l1 ↔ x ∈ l2) → l1 = l2
  | [], l2, _, _, h => by
    cases l2 with
    | nil => rfl
    | cons y l2 => exact absurd ((h y).2 List.mem_cons_self) (by simp)
  | x :: l1, [], _, _, h => absurd ((h x).1 List.mem_cons_self) (by simp)
  | x :: l1, y :: l2, h1, h2, h => by
    rw [List.pairwise_cons] at h1 h2
    have hxy : x = y := by
      rcases List.mem_cons.1 ((h x).1 List.mem_cons_self) with e | e
      · exact e
      · rcases List.mem_cons.1 ((h y).2 List.mem_cons_self) with e' | e'
        · exact e'.symm
        · exact absurd (tr (h1.1 _ e') (h2.1 _ e)) (irr _)
    subst hxy
    refine congrArg (x :: ·) (strict_uniq irr tr h1.2 h2.2 fun z => ?_)
    have hz := h z
    constructor
    · intro m
      rcases List.mem_cons.1 (hz.1 (List.mem_cons_of_mem _ m)) with e | e
      · subst e; exact absurd (h1.1 _ m) (irr _)
      · exact e
    · intro m
      rcases List.mem_cons.1 (hz.2 (List.mem_cons_of_mem _ m)) with e | e
      · subst e; exact absurd (h2.1 _ m) (irr _)
      · exact e
def sortedH (l : List HH) : Prop := l.Pairwise fun a b => aheadH a b = true
theorem sortedH_uniq {l1 l2 : List HH} (h1 : sortedH l1) (h2 : sortedH l2) (h : ∀ x, x ∈ l1 ↔ x ∈ l2) : l1 = l2 := strict_uniq (lt := fun a b : HH => aheadH a b = true) ahead_irr (fun h1 h2 => ahead_trans h1 h2) h1 h2 h
def withH (l : List HH) (h : HH) : List HH := l.filter (fun x => aheadH x h) ++ h :: l.filter (fun x => aheadH h x)
theorem withH_mem {l : List HH} {h x : HH} : x ∈ withH l h ↔ x = h ∨ x ∈ l := by
  unfold withH
  rw [List.mem_append, List.mem_cons, List.mem_filter, List.mem_filter]
  rcases ahead_tri x h with e | e | e
  · constructor
    · rintro (e1 | e1 | e1)
      · exact .inr e1.1
      · exact .inl e1
      · exact .inr e1.1
    · rintro (e1 | e1)
      · exact .inr (.inl e1)
      · exact .inl ⟨e1, e⟩
  · exact ⟨fun _ => .inl e, fun _ => .inr (.inl e)⟩
  · constructor
    · rintro (e1 | e1 | e1)
      · exact .inr e1.1
      · exact .inl e1
      · exact .inr e1.1
    · rintro (e1 | e1)
      · exact .inr (.inl e1)
      · exact .inr (.inr ⟨e1, e⟩)
theorem withH_sorted {l : List HH} (hl : sortedH l) (h : HH) : sortedH (withH l h) := by
  unfold withH sortedH
  rw [List.pairwise_append, List.pairwise_cons]
  refine ⟨List.Pairwise.sublist List.filter_sublist hl, ⟨fun y hy => (List.mem_filter.1 hy).2, List.Pairwise.sublist List.filter_sublist hl⟩, fun a ha b hb => ?_⟩
  have h1 := (List.mem_filter.1 ha).2
  rcases List.mem_cons.1 hb with e | e
  · subst e; exact h1
  · exact ahead_trans h1 (List.mem_filter.1 e).2
def allH (l : List RH) : List HH := (l.flatMap (·.2)).foldl withH []
theorem foldH : ∀ (xs l : List HH), sortedH l → sortedH (xs.foldl withH l) ∧ ∀ x, x ∈ xs.foldl withH l ↔ x ∈ xs ∨ x ∈ l
  | [], l, hl => ⟨hl, fun x => by simp⟩
  | y :: xs, l, hl => by
    obtain ⟨h1, h2⟩ := foldH xs (withH l y) (withH_sorted hl y)
    refine ⟨h1, fun x => ?_⟩
    rw [List.foldl_cons, h2 x, withH_mem, List.mem_cons]
    constructor
    · rintro (e | e | e)
      · exact .inl (.inr e)
      · exact .inl (.inl e)
      · exact .inr e
    · rintro ((e | e) | e)
      · exact .inr (.inl e)
      · exact .inl e
      · exact .inr (.inr e)
theorem allH_sorted (l : List RH) : sortedH (allH l) := (foldH _ [] List.Pairwise.nil).1
theorem allH_mem {l : List RH} {x : HH} : x ∈ allH l ↔ ∃ r ∈ l, x ∈ r.2 := by
  unfold allH
  rw [(foldH _ [] List.Pairwise.nil).2 x]
  simp
def mentB (p n : Int) : Bool := decide ((partsM p).1 = n) || decide ((partsM p).2 = n)
theorem ment_iff {p n : Int} : mentB p n = true ↔ (partsM p).1 = n ∨ (partsM p).2 = n := by unfold mentB; simp
def underH (l : List HH) (n : Int) : List HH := l.filter fun h => mentB h.2 n
def putI (l : List Int) (n : Int) : List Int := l.filter (fun x => decide (x < n)) ++ n :: l.filter (fun x => decide (x > n))
def risingI (l : List Int) : Prop := l.Pairwise (· < ·)
theorem risingI_uniq {l1 l2 : List Int} (h1 : risingI l1) (h2 : risingI l2) (h : ∀ x, x ∈ l1 ↔ x ∈ l2) : l1 = l2 := strict_uniq (fun a => Int.lt_irrefl a) (fun h1 h2 => Int.lt_trans h1 h2) h1 h2 h
theorem putI_mem {l : List Int} {n x : Int} : x ∈ putI l n ↔ x = n ∨ x ∈ l := by
  unfold putI
  rw [List.mem_append, List.mem_cons, List.mem_filter, List.mem_filter]
  simp only [decide_eq_true_eq]
  rcases Int.lt_trichotomy x n with e | e | e
  · constructor
    · rintro (e1 | e1 | e1)
      · exact .inr e1.1
      · exact .inl e1
      · exact .inr e1.1
    · rintro (e1 | e1)
      · exact .inr (.inl e1)
      · exact .inl ⟨e1, e⟩
  · exact ⟨fun _ => .inl e, fun _ => .inr (.inl e)⟩
  · constructor
    · rintro (e1 | e1 | e1)
      · exact .inr e1.1
      · exact .inl e1
      · exact .inr e1.1
    · rintro (e1 | e1)
      · exact .inr (.inl e1)
      · exact .inr (.inr ⟨e1, e⟩)
theorem putI_rising {l : List Int} (hl : risingI l) (n : Int) : risingI (putI l n) := by
  unfold putI risingI
  rw [List.pairwise_append, List.pairwise_cons]
  refine ⟨List.Pairwise.sublist List.filter_sublist hl, ⟨fun y hy => by simpa using (List.mem_filter.1 hy).2, List.Pairwise.sublist List.filter_sublist hl⟩, fun a ha b hb => ?_⟩
  have h1 : a < n := by simpa using (List.mem_filter.1 ha).2
  rcases List.mem_cons.1 hb with e | e
  · subst e; exact h1
  · have h2 : n < b := by simpa using (List.mem_filter.1 e).2
    omega
def idxH (l : List HH) : List Int := l.foldl (fun o h => putI (putI o (partsM h.2).1) (partsM h.2).2) []
theorem foldI : ∀ (xs : List HH) (l : List Int), risingI l → risingI (xs.foldl (fun o h => putI (putI o (partsM h.2).1) (partsM h.2).2) l) ∧ ∀ n, n ∈ xs.foldl (fun o h => putI (putI o (partsM h.2).1) (partsM h.2).2) l ↔ (∃ h ∈ xs, mentB h.2 n = true) ∨ n ∈ l
  | [], l, hl => ⟨hl, fun x => by simp⟩
  | y :: xs, l, hl => by
    obtain ⟨h1, h2⟩ := foldI xs (putI (putI l (partsM y.2).1) (partsM y.2).2) (putI_rising (putI_rising hl _) _)
    refine ⟨h1, fun n => ?_⟩
    rw [List.foldl_cons, h2 n, putI_mem, putI_mem]
    constructor
    · rintro (⟨h, e1, e2⟩ | e | e | e)
      · exact .inl ⟨h, List.mem_cons_of_mem _ e1, e2⟩
      · exact .inl ⟨y, List.mem_cons_self, ment_iff.2 (.inr e.symm)⟩
      · exact .inl ⟨y, List.mem_cons_self, ment_iff.2 (.inl e.symm)⟩
      · exact .inr e
    · rintro (⟨h, e1, e2⟩ | e)
      · rcases List.mem_cons.1 e1 with e3 | e3
        · subst e3
          rcases ment_iff.1 e2 with e4 | e4
          · exact .inr (.inr (.inl e4.symm))
          · exact .inr (.inl e4.symm)
        · exact .inl ⟨h, e3, e2⟩
      · exact .inr (.inr (.inr e))
theorem idxH_rising (l : List HH) : risingI (idxH l) := (foldI l [] List.Pairwise.nil).1
theorem idxH_mem {l : List HH} {n : Int} : n ∈ idxH l ↔ ∃ h ∈ l, mentB h.2 n = true := by
  unfold idxH
  rw [(foldI l [] List.Pairwise.nil).2 n]
  simp
def ofH (l : List HH) : List RH := (idxH l).map fun n => (n, underH l n)
def mayH (h : HH) : Bool := decide (kindM h.2 = 3) && inB 1 1048578 h.1
def rightH (l : List RH) : Bool := (allH l).all mayH && decide (l = ofH (allH l)) && decide ((allH l).length ≤ 20000)
def risingR (l : List RH) : Prop := l.Pairwise fun a b => a.1 < b.1
theorem risingR_map {l : List RH} (h : risingR l) : risingI (l.map Prod.fst) := List.pairwise_map.2 h
theorem risingR_inj {l : List RH} (h : risingR l) {a b : RH} (ha : a ∈ l) (hb : b ∈ l) (e : a.1 = b.1) : a = b := by
  induction l with
  | nil => cases ha
  | cons x l ih =>
    unfold risingR at h
    rw [List.pairwise_cons] at h
    rcases List.mem_cons.1 ha with ha | ha <;> rcases List.mem_cons.1 hb with hb | hb
    · rw [ha, hb]
    · have := h.1 _ hb; rw [← ha, e] at this; exact absurd this (Int.lt_irrefl _)
    · have := h.1 _ ha; rw [← hb, ← e] at this; exact absurd this (Int.lt_irrefl _)
    · exact ih h.2 ha hb
/-- Of what stands in rows, that whose pair's first index the row's is. -/
def firsts (l : List RH) : List HH := l.flatMap fun r => r.2.filter fun h => decide ((partsM h.2).1 = r.1)
/-- Which referrers may be, as the program asks it. -/
structure OkR (l : List RH) : Prop where
  rise : risingR l
  some_ : ∀ r ∈ l, r.2 ≠ []
  sort : ∀ r ∈ l, sortedH r.2
  may : ∀ r ∈ l, ∀ h ∈ r.2, mayH h = true
  ment : ∀ r ∈ l, ∀ h ∈ r.2, mentB h.2 r.1 = true
  there : ∀ r ∈ l, ∀ h ∈ r.2, ∀ n, mentB h.2 n = true → ∃ r' ∈ l, r'.1 = n ∧ h ∈ r'.2
  many : (firsts l).length ≤ 20000
theorem ofH_mem {A : List HH} {r : RH} : r ∈ ofH A ↔ r.1 ∈ idxH A ∧ r.2 = underH A r.1 := by
  unfold ofH
  rw [List.mem_map]
  constructor
  · rintro ⟨n, h1, h2⟩; subst h2; exact ⟨h1, rfl⟩
  · rintro ⟨h1, h2⟩; exact ⟨r.1, h1, by rw [← h2]⟩
theorem ofH_rising (A : List HH) : risingR (ofH A) := by
  unfold ofH risingR
  rw [List.pairwise_map]
  exact idxH_rising A
theorem underH_mem {A : List HH} {n : Int} {h : HH} : h ∈ underH A n ↔ h ∈ A ∧ mentB h.2 n = true := by
  unfold underH; rw [List.mem_filter]
theorem underH_sorted {A : List HH} (h : sortedH A) (n : Int) : sortedH (underH A n) := List.Pairwise.sublist List.filter_sublist h
theorem allH_of {A : List HH} (h : sortedH A) : allH (ofH A) = A := by
  refine sortedH_uniq (allH_sorted _) h fun x => ?_
  rw [allH_mem]
  constructor
  · rintro ⟨r, h1, h2⟩
    rw [ofH_mem] at h1
    rw [h1.2, underH_mem] at h2
    exact h2.1
  · intro hx
    have hm : mentB x.2 (partsM x.2).1 = true := ment_iff.2 (.inl rfl)
    exact ⟨((partsM x.2).1, underH A (partsM x.2).1), ofH_mem.2 ⟨idxH_mem.2 ⟨x, hx, hm⟩, rfl⟩, underH_mem.2 ⟨hx, hm⟩⟩
theorem sortedH_nodup {l : List HH} (h : sortedH l) : l.Nodup := List.Pairwise.imp (S := (· ≠ ·)) (fun {a b} h1 h2 => by subst h2; exact ahead_irr _ h1) h
theorem firsts_nodup {l : List RH} (h1 : risingR l) (h2 : ∀ r ∈ l, sortedH r.2) : (firsts l).Nodup := by
  induction l with
  | nil => exact List.Pairwise.nil
  | cons x l ih =>
    unfold risingR at h1
    rw [List.pairwise_cons] at h1
    unfold firsts
    rw [List.flatMap_cons]
    refine List.pairwise_append.2 ⟨(sortedH_nodup (h2 x List.mem_cons_self)).sublist List.filter_sublist, ih h1.2 fun r hr => h2 r (List.mem_cons_of_mem _ hr), fun a ha b hb hab => ?_⟩
    subst hab
    have e1 : (partsM a.2).1 = x.1 := by simpa using (List.mem_filter.1 ha).2
    obtain ⟨r, hr, hm⟩ := List.mem_flatMap.1 hb
    have e2 : (partsM a.2).1 = r.1 := by simpa using (List.mem_filter.1 hm).2
    have := h1.1 r hr
    omega
theorem perm_of_memG {α : Type} : ∀ {l1 l2 : List α}, l1.Nodup → l2.Nodup → (∀ x, x ∈ l1 ↔ x ∈ l2) → l1.Perm l2
  | [], l2, _, _, h => by
    cases l2 with
    | nil => exact .nil
    | cons y l2 => exact absurd ((h y).2 (List.mem_cons_self)) (by simp)
  | x :: l1, l2, h1, h2, h => by
    have hx : x ∈ l2 := (h x).1 List.mem_cons_self
    obtain ⟨a, b, rfl⟩ := List.append_of_mem hx
    rw [List.nodup_cons] at h1
    have h3 : (x :: (a ++ b)).Nodup := (List.perm_middle (a := x) (l₁ := a) (l₂ := b)).nodup_iff.1 h2
    rw [List.nodup_cons] at h3
    refine ((perm_of_memG h1.2 h3.2 fun y => ?_).cons x).trans List.perm_middle.symm
    have := h y
    constructor
    · intro hy
      have h4 := this.1 (List.mem_cons_of_mem _ hy)
      rcases List.mem_append.1 h4 with h4 | h4
      · exact List.mem_append_left _ h4
      · rcases List.mem_cons.1 h4 with h4 | h4
        · subst h4; exact absurd hy h1.1
        · exact List.mem_append_right _ h4
    · intro hy
      have hyx : y ≠ x := fun e => h3.1 (e ▸ hy)
      have h4 : y ∈ x :: l1 := this.2 (by
        rcases List.mem_append.1 hy with h4 | h4
        · exact List.mem_append_left _ h4
        · exact List.mem_append_right _ (List.mem_cons_of_mem _ h4))
      rcases List.mem_cons.1 h4 with h4 | h4
      · exact absurd h4 hyx
      · exact h4
theorem firsts_perm {l : List RH} (h1 : risingR l) (h2 : ∀ r ∈ l, sortedH r.2) (h3 : ∀ r ∈ l, ∀ h ∈ r.2, ∀ n, mentB h.2 n = true → ∃ r' ∈ l, r'.1 = n ∧ h ∈ r'.2) : (firsts l).Perm (allH l) := by
  refine perm_of_memG (firsts_nodup h1 h2) (sortedH_nodup (allH_sorted l)) fun x => ?_
  unfold firsts
  rw [List.mem_flatMap, allH_mem]
  constructor
  · rintro ⟨r, hr, hx⟩; exact ⟨r, hr, (List.mem_filter.1 hx).1⟩
  · rintro ⟨r, hr, hx⟩
    obtain ⟨r', hr', e, hx'⟩ := h3 r hr x hx _ (ment_iff.2 (.inl rfl))
    exact ⟨r', hr', List.mem_filter.2 ⟨hx', by simpa using e.symm⟩⟩
theorem right_of_ok {l : List RH} (h : OkR l) : rightH l = true := by
  have hof : l = ofH (allH l) := by
    have hfst : l.map Prod.fst = idxH (allH l) := by
      refine risingI_uniq (risingR_map h.rise) (idxH_rising _) fun n => ?_
      rw [idxH_mem, List.mem_map]
      constructor
      · rintro ⟨r, hr, e⟩
        cases hr2 : r.2 with
        | nil => exact absurd hr2 (h.some_ r hr)
        | cons y ys =>
          have hy : y ∈ r.2 := by rw [hr2]; exact List.mem_cons_self
          exact ⟨y, allH_mem.2 ⟨r, hr, hy⟩, by rw [← e]; exact h.ment r hr y hy⟩
      · rintro ⟨y, hy, e⟩
        obtain ⟨r, hr, hyr⟩ := allH_mem.1 hy
        obtain ⟨r', hr', e', _⟩ := h.there r hr y hyr n e
        exact ⟨r', hr', e'⟩
    refine strict_uniq (lt := fun a b : RH => a.1 < b.1) (fun a => Int.lt_irrefl _) (fun h1 h2 => Int.lt_trans h1 h2) h.rise (ofH_rising _) fun r => ?_
    have key : ∀ r ∈ l, r.2 = underH (allH l) r.1 := fun r hr => sortedH_uniq (h.sort r hr) (underH_sorted (allH_sorted l) _) fun x => by
      rw [underH_mem, allH_mem]
      constructor
      · intro hx; exact ⟨⟨r, hr, hx⟩, h.ment r hr x hx⟩
      · rintro ⟨⟨r', hr', hx⟩, hm⟩
        obtain ⟨r2, hr2, e, hx2⟩ := h.there r' hr' x hx _ hm
        have := risingR_inj h.rise hr2 hr e
        subst this
        exact hx2
    rw [ofH_mem]
    constructor
    · intro hr
      exact ⟨by rw [← hfst]; exact List.mem_map_of_mem hr, key r hr⟩
    · rintro ⟨h1, h2⟩
      rw [← hfst, List.mem_map] at h1
      obtain ⟨r', hr', e⟩ := h1
      have : r = r' := Prod.ext e.symm (by rw [h2, key r' hr', e])
      rw [this]; exact hr'
  unfold rightH
  rw [Bool.and_eq_true, Bool.and_eq_true]
  refine ⟨⟨List.all_eq_true.2 fun x hx => ?_, decide_eq_true hof⟩, decide_eq_true ?_⟩
  · obtain ⟨r, hr, hxr⟩ := allH_mem.1 hx
    exact h.may r hr x hxr
  · rw [← (firsts_perm h.rise h.sort h.there).length_eq]; exact h.many
theorem ok_of_right {l : List RH} (h : rightH l = true) : OkR l := by
  unfold rightH at h
  rw [Bool.and_eq_true, Bool.and_eq_true] at h
  obtain ⟨⟨h1, h2⟩, h3⟩ := h
  have h2 := of_decide_eq_true h2
  have h3 := of_decide_eq_true h3
  rw [List.all_eq_true] at h1
  have hmem : ∀ r, r ∈ l ↔ r.1 ∈ idxH (allH l) ∧ r.2 = underH (allH l) r.1 := fun r => by
    conv => lhs; rw [h2]
    exact ofH_mem
  have hrise : risingR l := by rw [h2]; exact ofH_rising _
  have hsort : ∀ r ∈ l, sortedH r.2 := fun r hr => by rw [((hmem r).1 hr).2]; exact underH_sorted (allH_sorted l) _
  have hthere : ∀ r ∈ l, ∀ h ∈ r.2, ∀ n, mentB h.2 n = true → ∃ r' ∈ l, r'.1 = n ∧ h ∈ r'.2 := fun r hr x hx n hn => by
    have hxA : x ∈ allH l := allH_mem.2 ⟨r, hr, hx⟩
    exact ⟨(n, underH (allH l) n), (hmem _).2 ⟨idxH_mem.2 ⟨x, hxA, hn⟩, rfl⟩, rfl, underH_mem.2 ⟨hxA, hn⟩⟩
  refine ⟨hrise, fun r hr e => ?_, hsort, fun r hr x hx => h1 x (allH_mem.2 ⟨r, hr, hx⟩), fun r hr x hx => ?_, hthere, ?_⟩
  · obtain ⟨h4, h5⟩ := (hmem r).1 hr
    obtain ⟨y, hy, hm⟩ := idxH_mem.1 h4
    have : y ∈ r.2 := by rw [h5]; exact underH_mem.2 ⟨hy, hm⟩
    rw [e] at this
    cases this
  · rw [((hmem r).1 hr).2] at hx
    exact (underH_mem.1 hx).2
  · rw [(firsts_perm hrise hsort hthere).length_eq]; exact h3
theorem right_ok {l : List RH} : rightH l = true ↔ OkR l := ⟨ok_of_right, right_of_ok⟩
end Go.Eng
/- Referrers, plain: what becomes of them. -/
namespace Go.Eng
open Go.Proofs
set_option linter.unusedSimpArgs false
set_option linter.unusedVariables false
/-- Where a search halts. -/
structure Cut (f : Nat → Int) (n i : Nat) : Prop where
  le : i ≤ n
  lo : 0 < i → f (i - 1) < 0
  hi : i < n → 0 ≤ f i
theorem Cut.there {f : Nat → Int} {n i t : Nat} (h : Cut f n i) (hm : ∀ a b, a < b → b < n → f a < f b) (ht : t < n) (h0 : f t = 0) : i = t := by
  rcases Nat.lt_trichotomy i t with e | e | e
  · have h1 := h.hi (by omega)
    have h2 := hm i t e ht
    omega
  · exact e
  · have h1 := h.lo (by omega)
    by_cases e2 : t = i - 1
    · subst e2; omega
    · have h2 := hm t (i - 1) (by omega) (by have := h.le; omega)
      omega
/-- Left of it all is less, right of it all is more. -/
theorem Cut.sides {f : Nat → Int} {n i : Nat} (h : Cut f n i) (hm : ∀ a b, a < b → b < n → f a < f b) : (∀ a, a < i → f a < 0) ∧ ∀ a, i < a → a < n → 0 < f a := by
  refine ⟨fun a ha => ?_, fun a ha hn => ?_⟩
  · have h1 := h.lo (by omega)
    by_cases e : a = i - 1
    · subst e; exact h1
    · have := hm a (i - 1) (by omega) (by have := h.le; omega)
      omega
  · have h1 := h.hi (by omega)
    have := hm i a ha hn
    omega
def withoutH (l : List HH) (h : HH) : List HH := l.filter fun x => decide (x ≠ h)
theorem withoutH_mem {l : List HH} {h x : HH} : x ∈ withoutH l h ↔ x ∈ l ∧ x ≠ h := by unfold withoutH; rw [List.mem_filter, decide_eq_true_eq]
theorem withoutH_sorted {l : List HH} (hl : sortedH l) (h : HH) : sortedH (withoutH l h) := List.Pairwise.sublist List.filter_sublist hl
/-- The row of an index. -/
def lookH (l : List RH) (n : Int) : List HH := match l.find? (fun r => decide (r.1 = n)) with | some r => r.2 | none => []
theorem lookH_of {l : List RH} (hl : risingR l) {r : RH} (hr : r ∈ l) : lookH l r.1 = r.2 := by
  unfold lookH
  cases h : l.find? (fun q => decide (q.1 = r.1)) with
  | none => exact absurd (by simp) (List.find?_eq_none.1 h r hr)
  | some q =>
    have h1 := List.mem_of_find?_eq_some h
    have h2 : q.1 = r.1 := by simpa using List.find?_some h
    rw [risingR_inj hl h1 hr h2]
theorem lookH_none {l : List RH} {n : Int} (h : ∀ r ∈ l, r.1 ≠ n) : lookH l n = [] := by
  unfold lookH
  rw [List.find?_eq_none.2 (fun r hr => by simpa using h r hr)]
theorem ofH_mem' {A : List HH} {r : RH} : r ∈ ofH A ↔ r.2 = underH A r.1 ∧ r.2 ≠ [] := by
  rw [ofH_mem, idxH_mem]
  constructor
  · rintro ⟨⟨h, h1, h2⟩, h3⟩
    refine ⟨h3, fun e => ?_⟩
    have : h ∈ r.2 := by rw [h3]; exact underH_mem.2 ⟨h1, h2⟩
    rw [e] at this; cases this
  · rintro ⟨h1, h2⟩
    refine ⟨?_, h1⟩
    cases hr : r.2 with
    | nil => exact absurd hr h2
    | cons y ys =>
      have hy : y ∈ underH A r.1 := by rw [← h1, hr]; exact List.mem_cons_self
      exact ⟨y, (underH_mem.1 hy).1, (underH_mem.1 hy).2⟩
theorem look_of (A : List HH) (n : Int) : lookH (ofH A) n = underH A n := by
  by_cases h : underH A n = []
  · rw [h]
    refine lookH_none fun r hr e => ?_
    have := ofH_mem'.1 hr
    rw [e, h] at this
    exact this.2 this.1
  · exact lookH_of (ofH_rising A) (r := (n, underH A n)) (ofH_mem'.2 ⟨rfl, h⟩)
/-- One row is another: what behind it stands. -/
structure Chg (l l' : List RH) (n : Int) (by' : List HH) : Prop where
  rise : risingR l'
  mem : ∀ r, r ∈ l' ↔ (r.1 ≠ n ∧ r ∈ l) ∨ (r.1 = n ∧ r.2 = by' ∧ r.2 ≠ [])
theorem Chg.look {l l' : List RH} {n : Int} {by' : List HH} (hl : risingR l) (h : Chg l l' n by') {m : Int} (hm : m ≠ n) : lookH l' m = lookH l m := by
  by_cases e : ∃ r ∈ l, r.1 = m
  · obtain ⟨r, hr, rfl⟩ := e
    rw [lookH_of hl hr, lookH_of h.rise ((h.mem r).2 (.inl ⟨hm, hr⟩))]
  · rw [lookH_none fun r hr e1 => e ⟨r, hr, e1⟩, lookH_none fun r hr e1 => ?_]
    rcases (h.mem r).1 hr with ⟨_, h2⟩ | ⟨h2, _⟩
    · exact e ⟨r, h2, e1⟩
    · exact hm (e1 ▸ h2)
theorem ofH_uniq {l : List RH} {A : List HH} (h1 : risingR l) (h2 : ∀ r, r ∈ l ↔ r.2 = underH A r.1 ∧ r.2 ≠ []) : l = ofH A :=
  strict_uniq (lt := fun a b : RH => a.1 < b.1) (fun a => Int.lt_irrefl _) (fun h1 h2 => Int.lt_trans h1 h2) h1 (ofH_rising _) fun r => by rw [h2 r, ofH_mem']
/-- Both rows of a pair changed, what comes of it are another row's referrers. -/
theorem chg_both {A A' : List HH} {l1 l2 : List RH} {p : Int} (h1 : Chg (ofH A) l1 (partsM p).1 (underH A' (partsM p).1)) (h2 : (partsM p).1 ≠ (partsM p).2 → Chg l1 l2 (partsM p).2 (underH A' (partsM p).2)) (h3 : (partsM p).1 = (partsM p).2 → l2 = l1)
    (hA : ∀ n, mentB p n = false → underH A' n = underH A n) : l2 = ofH A' := by
  by_cases e : (partsM p).1 = (partsM p).2
  · rw [h3 e]
    refine ofH_uniq h1.rise fun r => ?_
    rw [h1.mem r, ofH_mem']
    by_cases e1 : r.1 = (partsM p).1
    · rw [e1]; simp
    · have := hA r.1 (by unfold mentB; rw [← e]; simp [Ne.symm e1])
      rw [this]; simp [e1]
  · have h2 := h2 e
    refine ofH_uniq h2.rise fun r => ?_
    rw [h2.mem r, h1.mem r, ofH_mem']
    by_cases e1 : r.1 = (partsM p).1
    · have e2 : r.1 ≠ (partsM p).2 := fun h => e (e1 ▸ h)
      rw [e1] at e2 ⊢; simp [e2]
    · by_cases e2 : r.1 = (partsM p).2
      · rw [e2]; simp
      · have := hA r.1 (by unfold mentB; simp [Ne.symm e1, Ne.symm e2])
        rw [this]; simp [e1, e2]
theorem under_with {A : List HH} (hA : sortedH A) (h : HH) (n : Int) : underH (withH A h) n = if mentB h.2 n then withH (underH A n) h else underH A n := by
  by_cases e : mentB h.2 n = true
  · rw [if_pos e]
    refine sortedH_uniq (underH_sorted (withH_sorted hA h) n) (withH_sorted (underH_sorted hA n) h) fun x => ?_
    rw [underH_mem, withH_mem, withH_mem, underH_mem]
    constructor
    · rintro ⟨rfl | h1, h2⟩
      · exact .inl rfl
      · exact .inr ⟨h1, h2⟩
    · rintro (rfl | ⟨h1, h2⟩)
      · exact ⟨.inl rfl, e⟩
      · exact ⟨.inr h1, h2⟩
  · rw [if_neg e]
    refine sortedH_uniq (underH_sorted (withH_sorted hA h) n) (underH_sorted hA n) fun x => ?_
    rw [underH_mem, withH_mem, underH_mem]
    constructor
    · rintro ⟨rfl | h1, h2⟩
      · exact absurd h2 e
      · exact ⟨h1, h2⟩
    · rintro ⟨h1, h2⟩; exact ⟨.inr h1, h2⟩
theorem under_without {A : List HH} (h : HH) (n : Int) : underH (withoutH A h) n = withoutH (underH A n) h := by
  unfold underH withoutH
  rw [List.filter_filter, List.filter_filter]
  congr 1
  funext x
  exact Bool.and_comm _ _
theorem without_none {A : List HH} {h : HH} {n : Int} (e : mentB h.2 n = false) : withoutH (underH A n) h = underH A n := by
  unfold withoutH
  refine List.filter_eq_self.2 fun x hx => decide_eq_true fun e2 => ?_
  rw [e2, underH_mem, e] at hx
  cases hx.2
/-- A row with one more at its place. -/
theorem with_at {l : List HH} (hl : sortedH l) {h : HH} (hn : h ∉ l) {i : Nat} (hi : i ≤ l.length) (h1 : ∀ a x, l[a]? = some x → a < i → aheadH x h = true) (h2 : ∀ a x, l[a]? = some x → i ≤ a → aheadH h x = true) : l.take i ++ h :: l.drop i = withH l h := by
  have hmem : ∀ x, x ∈ l.take i → aheadH x h = true := fun x hx => by
    obtain ⟨a, ha⟩ := List.mem_iff_getElem?.1 hx
    rw [List.getElem?_take] at ha
    by_cases e : a < i
    · rw [if_pos e] at ha; exact h1 a x ha e
    · rw [if_neg e] at ha; cases ha
  have hmem2 : ∀ x, x ∈ l.drop i → aheadH h x = true := fun x hx => by
    obtain ⟨a, ha⟩ := List.mem_iff_getElem?.1 hx
    rw [List.getElem?_drop] at ha
    exact h2 _ x ha (by omega)
  have hs : sortedH (l.take i ++ l.drop i) := by rw [List.take_append_drop]; exact hl
  unfold sortedH at hs
  rw [List.pairwise_append] at hs
  refine sortedH_uniq (List.pairwise_append.2 ⟨hs.1, List.pairwise_cons.2 ⟨hmem2, hs.2.1⟩, fun a ha b hb => ?_⟩) (withH_sorted hl h) fun x => ?_
  · rcases List.mem_cons.1 hb with e | e
    · subst e; exact hmem a ha
    · exact hs.2.2 a ha b e
  · rw [withH_mem]
    conv => rhs; rw [← List.take_append_drop i l]
    rw [List.mem_append, List.mem_cons, List.mem_append]
    constructor
    · rintro (e | e | e)
      · exact .inr (.inl e)
      · exact .inl e
      · exact .inr (.inr e)
    · rintro (e | e | e)
      · exact .inr (.inl e)
      · exact .inl e
      · exact .inr (.inr e)
/-- The rows' change, as the program does it: at its place in l, or put in there. -/
theorem chg_at {l : List RH} (hl : risingR l) (hs : ∀ r ∈ l, r.2 ≠ []) {n : Int} {i : Nat} {r : RH} (hr : l[i]? = some r) (e : r.1 = n) (by' : List HH) :
    (by' ≠ [] → Chg l (l.set i (n, by')) n by') ∧ (by' = [] → Chg l (l.eraseIdx i) n by') := by
  have hi := (List.getElem?_eq_some_iff.1 hr).1
  have hrm : r ∈ l := List.mem_of_getElem? hr
  have hget : ∀ a b (x y : RH), l[a]? = some x → l[b]? = some y → a < b → x.1 < y.1 := fun a b x y ha hb hab => by
    obtain ⟨ha1, ha2⟩ := List.getElem?_eq_some_iff.1 ha
    obtain ⟨hb1, hb2⟩ := List.getElem?_eq_some_iff.1 hb
    rw [← ha2, ← hb2]
    exact List.pairwise_iff_getElem.1 hl a b ha1 hb1 hab
  have hne : ∀ a x, l[a]? = some x → a ≠ i → x.1 ≠ n := fun a x ha hai => by
    rcases Nat.lt_or_gt_of_ne hai with h | h
    · have := hget a i x r ha hr h; omega
    · have := hget i a r x hr ha h; omega
  refine ⟨fun hb => ⟨?_, fun q => ?_⟩, fun hb => ⟨List.Pairwise.sublist (List.eraseIdx_sublist l i) hl, fun q => ?_⟩⟩
  · unfold risingR
    rw [List.pairwise_iff_getElem]
    intro a b ha hb2 hab
    rw [List.length_set] at ha hb2
    rw [List.getElem_set, List.getElem_set]
    by_cases e1 : i = a
    · rw [if_pos e1, if_neg (by omega)]
      subst e1
      have := hget i b r l[b] hr (List.getElem?_eq_getElem hb2) hab
      simp only; omega
    · rw [if_neg e1]
      by_cases e2 : i = b
      · rw [if_pos e2]
        subst e2
        have := hget a i l[a] r (List.getElem?_eq_getElem ha) hr hab
        simp only; omega
      · rw [if_neg e2]
        exact hget a b _ _ (List.getElem?_eq_getElem ha) (List.getElem?_eq_getElem hb2) hab
  · constructor
    · intro hq
      obtain ⟨a, ha⟩ := List.mem_iff_getElem?.1 hq
      rw [List.getElem?_set] at ha
      by_cases e1 : i = a
      · rw [if_pos e1] at ha
        have : a < l.length := by omega
        simp at ha
        obtain ⟨_, ha⟩ := ha
        subst ha
        exact .inr ⟨rfl, rfl, hb⟩
      · rw [if_neg e1] at ha
        exact .inl ⟨hne a q ha (Ne.symm e1), List.mem_of_getElem? ha⟩
    · rintro (⟨h1, h2⟩ | ⟨h1, h2, h3⟩)
      · obtain ⟨a, ha⟩ := List.mem_iff_getElem?.1 h2
        refine List.mem_iff_getElem?.2 ⟨a, ?_⟩
        rw [List.getElem?_set, if_neg (fun e1 => h1 ?_)]
        · exact ha
        · subst e1; rw [hr] at ha; cases ha; exact e
      · refine List.mem_iff_getElem?.2 ⟨i, ?_⟩
        rw [List.getElem?_set, if_pos rfl]
        simp [hi]
        exact Prod.ext h1.symm h2.symm
  · subst hb
    rw [List.mem_eraseIdx_iff_getElem?]
    constructor
    · rintro ⟨a, h1, h2⟩
      exact .inl ⟨hne a q h2 h1, List.mem_of_getElem? h2⟩
    · rintro (⟨h1, h2⟩ | ⟨h1, h2, h3⟩)
      · obtain ⟨a, ha⟩ := List.mem_iff_getElem?.1 h2
        refine ⟨a, fun e1 => h1 ?_, ha⟩
        subst e1; rw [hr] at ha; cases ha; exact e
      · exact absurd h2 h3
theorem chg_new {l : List RH} (hl : risingR l) {n : Int} {i : Nat} (hi : i ≤ l.length) (h1 : ∀ a x, l[a]? = some x → a < i → x.1 < n) (h2 : ∀ a x, l[a]? = some x → i ≤ a → n < x.1) (by' : List HH) :
    (by' ≠ [] → Chg l (l.take i ++ (n, by') :: l.drop i) n by') ∧ (by' = [] → Chg l l n by') := by
  have hne : ∀ x ∈ l, x.1 ≠ n := fun x hx => by
    obtain ⟨a, ha⟩ := List.mem_iff_getElem?.1 hx
    by_cases e : a < i
    · have := h1 a x ha e; omega
    · have := h2 a x ha (by omega); omega
  refine ⟨fun hb => ⟨?_, fun q => ?_⟩, fun hb => ⟨hl, fun q => ?_⟩⟩
  · have hm1 : ∀ x, x ∈ l.take i → x.1 < n := fun x hx => by
      obtain ⟨a, ha⟩ := List.mem_iff_getElem?.1 hx
      rw [List.getElem?_take] at ha
      by_cases e : a < i
      · rw [if_pos e] at ha; exact h1 a x ha e
      · rw [if_neg e] at ha; cases ha
    have hm2 : ∀ x, x ∈ l.drop i → n < x.1 := fun x hx => by
      obtain ⟨a, ha⟩ := List.mem_iff_getElem?.1 hx
      rw [List.getElem?_drop] at ha
      exact h2 _ x ha (by omega)
    have hs : risingR (l.take i ++ l.drop i) := by rw [List.take_append_drop]; exact hl
    unfold risingR at hs
    rw [List.pairwise_append] at hs
    refine List.pairwise_append.2 ⟨hs.1, List.pairwise_cons.2 ⟨hm2, hs.2.1⟩, fun a ha b hb => ?_⟩
    rcases List.mem_cons.1 hb with e | e
    · subst e; exact hm1 a ha
    · exact hs.2.2 a ha b e
  · constructor
    · intro hq
      rcases List.mem_append.1 hq with e | e
      · have := List.mem_of_mem_take e; exact .inl ⟨hne q this, this⟩
      · rcases List.mem_cons.1 e with e | e
        · subst e; exact .inr ⟨rfl, rfl, hb⟩
        · have := List.mem_of_mem_drop e; exact .inl ⟨hne q this, this⟩
    · rintro (⟨_, h2⟩ | ⟨h3, h4, _⟩)
      · rw [← List.take_append_drop i l, List.mem_append] at h2
        rcases h2 with e | e
        · exact List.mem_append_left _ e
        · exact List.mem_append_right _ (List.mem_cons_of_mem _ e)
      · rw [show q = (n, by') from Prod.ext h3 h4]
        exact List.mem_append_right _ List.mem_cons_self
  · subst hb
    constructor
    · intro hq; exact .inl ⟨hne q hq, hq⟩
    · rintro (⟨_, h2⟩ | ⟨_, h3, h4⟩)
      · exact h2
      · exact absurd h3 h4
end Go.Eng
/- Referrers: parts of pairs, what is held, and its order. -/
namespace Go.Eng
open Go.Proofs
set_option linter.unusedSimpArgs false
set_option linter.unusedVariables false
abbrev dHeld : Ty HH := tPair (tInt .i64) (tInt .u64)
abbrev okH (h : HH) : Prop := inK .i64 h.1 ∧ inK .u64 h.2
abbrev cH (h : HH) : List Value := [.int .i64 h.1, .int .u64 h.2]
theorem flatHeld : FlatTy dHeld cH okH :=
  (inferInstance : FlatTy (tPair (tInt .i64) (tInt .u64)) (fun p => [.int .i64 p.1] ++ [.int .u64 p.2]) (fun p => inK .i64 p.1 ∧ inK .u64 p.2))
instance (priority := high) : FlatTy dHeld cH okH := flatHeld
def cmpH (a b : HH) : Int := if cmpI a.1 b.1 = 0 then cmpI a.2 b.2 else cmpI a.1 b.1
theorem cmpI_range (x y : Int) : -1 ≤ cmpI x y ∧ cmpI x y ≤ 1 := by unfold cmpI; split <;> (try split) <;> omega
theorem cmpI_neg {x y : Int} : cmpI x y < 0 ↔ x < y := by unfold cmpI; split <;> (try split) <;> omega
theorem cmpI_zero' {x y : Int} : cmpI x y = 0 ↔ x = y := by unfold cmpI; split <;> (try split) <;> omega
theorem cmpH_neg {a b : HH} : cmpH a b < 0 ↔ aheadH a b = true := by
  rw [ahead_iff]
  unfold cmpH
  by_cases h : cmpI a.1 b.1 = 0
  · rw [if_pos h, cmpI_neg]
    have := cmpI_zero'.1 h
    omega
  · rw [if_neg h, cmpI_neg]
    have : ¬ a.1 = b.1 := fun e => h (cmpI_zero'.2 e)
    omega
theorem cmpH_zero {a b : HH} : cmpH a b = 0 ↔ a = b := by
  obtain ⟨a1, a2⟩ := a
  obtain ⟨b1, b2⟩ := b
  unfold cmpH
  simp only [Prod.mk.injEq]
  by_cases h : cmpI a1 b1 = 0
  · rw [if_pos h, cmpI_zero']
    have := cmpI_zero'.1 h
    simp [this]
  · rw [if_neg h]
    have : ¬ a1 = b1 := fun e => h (cmpI_zero'.2 e)
    simp [h, this]
theorem cmpH_pos {a b : HH} : 0 < cmpH a b ↔ aheadH b a = true := by
  rcases ahead_tri a b with h | h | h
  · have h1 := cmpH_neg.2 h
    have h2 := ahead_asym h
    constructor
    · intro h3; omega
    · intro h3; exact absurd h3 h2
  · have h1 := cmpH_zero.2 h
    constructor
    · intro h3; omega
    · intro h3; subst h; exact absurd h3 (ahead_irr a)
  · refine ⟨fun _ => h, fun _ => ?_⟩
    have h1 : ¬ cmpH a b < 0 := fun h4 => ahead_asym h (cmpH_neg.1 h4)
    have h2 : ¬ cmpH a b = 0 := fun h4 => by rw [cmpH_zero.1 h4] at h; exact ahead_irr b h
    omega
def orL : List Int → Int
  | [] => 0
  | x :: xs => if x = 0 then orL xs else x
theorem kindM_rng (id : Int) : kindM id = 0 ∨ kindM id = 1 ∨ kindM id = 2 ∨ kindM id = 3 ∨ kindM id = 4 := by
  unfold kindM kindP
  split
  · simp
  · split
    · simp
    · split
      · simp
      · split <;> simp
theorem partsM_lt (id : Int) : (0 ≤ (partsM id).1 ∧ (partsM id).1 < 1073741824) ∧ 0 ≤ (partsM id).2 ∧ (partsM id).2 < 1073741824 := by
  have ha := idA_lt id
  have hb := idB_lt id
  unfold partsM
  split
  · simp
  · split
    · exact ⟨hb, ha⟩
    · exact ⟨ha, hb⟩
attribute [local irreducible] Hold J JL JD JX JXat OpR OpG Ret RetV Is Blk Row MapC
set_option maxRecDepth 100000
set_option maxHeartbeats 1000000
theorem parts_r (w : World) (id : Int) (hi : inK .u64 id) : Ret Tryz.prog 205 #[.int .u64 id] w fun v w' => v = .tuple #[.int .i64 (partsM id).1, .int .i64 (partsM id).2] ∧ Ext w w' := by
  refine Ret_of (l := [_]) Tryz.func205 rfl Tryz.ntmps205 (by simp) ?_
  have hs := St.init w
  rcases kindM_rng id with hk | hk | hk | hk | hk
  all_goals
    repeat' (first
      | ((apply al_call 208; refine JL_o (by exact OpR_callF en208 rfl (halves_r _ id hi)) rfl rfl ?_; rintro _ _ ⟨rfl, hE⟩; have hs := hs.ext hE; (try simp only [List.cons_append, List.nil_append] at hs)))
      | ((apply al_call 152; refine JL_o (by exact OpR_callF en152 rfl (kind_r _ id hi)) rfl rfl ?_; rintro _ _ ⟨rfl, hE⟩; rw [hk]; have hs := hs.ext hE; (try simp only [List.cons_append, List.nil_append] at hs)))
      | (apply JL_nil)
      | ((apply JL_pure); (first
      | (apply as_move; exact OpR_move rfl is_rfl)
      | (apply as_assign; exact OpR_assign rfl is_rfl)
      | (apply as_binOp; exact OpR_ibin rfl rfl rfl is_rfl)
      | (apply as_extract; exact OpR_extract rfl rfl is_rfl)); first | (exact rfl; exact rfl) | exact rfl)
      | (apply J_seq)
      | (apply J_region)
      | (apply J_block)
      | (apply J_inBlock)
      | (apply J_skip)
      | (apply aj_cond; first | refine J_dec_t rfl ob ?_ | refine J_dec_f rfl ob ?_))
    refine J_leave Tryz.func205 rfl (.tmp rfl (.tmp rfl .nil)) ⟨by unfold partsM; rw [hk]; rfl, hs.frm.ext⟩
theorem partsR_r (w : World) (id : Int) (hi : inK .u64 id) : Ret Tryz.prog 159 #[.int .u64 id] w fun v w' => v = .tuple #[.int .i64 (partsM id).1, .int .i64 (partsM id).2] ∧ Ext w w' := by
  refine Ret_of (l := [_]) Tryz.func159 rfl Tryz.ntmps159 (by simp) ?_
  have hs := St.init w
  rcases kindM_rng id with hk | hk | hk | hk | hk
  all_goals
    repeat' (first
      | ((apply al_call 89; refine JL_o (by exact OpR_callF en89 rfl (halvesR_r _ id hi)) rfl rfl ?_; rintro _ _ ⟨rfl, hE⟩; have hs := hs.ext hE; (try simp only [List.cons_append, List.nil_append] at hs)))
      | ((apply al_call 28; refine JL_o (by exact OpR_callF en28 rfl (kindR_r _ id hi)) rfl rfl ?_; rintro _ _ ⟨rfl, hE⟩; rw [hk]; have hs := hs.ext hE; (try simp only [List.cons_append, List.nil_append] at hs)))
      | (apply JL_nil)
      | ((apply JL_pure); (first
      | (apply as_move; exact OpR_move rfl is_rfl)
      | (apply as_assign; exact OpR_assign rfl is_rfl)
      | (apply as_binOp; exact OpR_ibin rfl rfl rfl is_rfl)
      | (apply as_extract; exact OpR_extract rfl rfl is_rfl)); first | (exact rfl; exact rfl) | exact rfl)
      | (apply J_seq)
      | (apply J_region)
      | (apply J_block)
      | (apply J_inBlock)
      | (apply J_skip)
      | (apply aj_cond; first | refine J_dec_t rfl ob ?_ | refine J_dec_f rfl ob ?_))
    refine J_leave Tryz.func159 rfl (.tmp rfl (.tmp rfl .nil)) ⟨by unfold partsM; rw [hk]; rfl, hs.frm.ext⟩
theorem both_r (w : World) (id : Int) (hi : inK .u64 id) : Ret Tryz.prog 150 #[.int .u64 id] w fun v w' => v = .agg #[.int .i64 (partsM id).1, .int .i64 (partsM id).2] ∧ Ext w w' := by
  refine Ret_of (l := [_]) Tryz.func150 rfl Tryz.ntmps150 (by simp) ?_
  have hs := St.init w
  repeat' (first
    | ((apply al_call 205; refine JL_o (by exact OpR_callF en205 rfl (parts_r _ id hi)) rfl rfl ?_; rintro _ _ ⟨rfl, hE⟩; have hs := hs.ext hE; (try simp only [List.cons_append, List.nil_append] at hs)))
    | (apply JL_nil)
    | ((apply JL_pure); (first
      | (apply as_move; exact OpR_move rfl is_rfl)
      | (apply as_assign; exact OpR_assign rfl is_rfl)
      | (apply as_extract; exact OpR_extract rfl rfl is_rfl)
      | (apply as_build; exact OpR_build_arr rfl (by (simp only [bld, placesOf, splice, Value.cells, List.take_succ_cons, List.take_zero, List.drop_succ_cons, List.drop_zero, List.cons_append, List.nil_append, List.length_cons, List.length_nil, List.getElem?_cons_zero, List.getElem?_cons_succ, Option.map_some, List.append_nil, Nat.reduceAdd, Nat.reduceMul, Nat.zero_add, Nat.reduceLeDiff, and_self, if_true, List.toList_toArray, Nat.le_refl, Nat.zero_mul, Nat.one_mul]; first | done | rfl)) is_rfl)); first | (exact rfl; exact rfl) | exact rfl)
    | (apply J_seq)
    | (apply J_region)
    | (apply al_none (t := 2); refine JL_o (by apply as_alloc; exact OpR_alloc' hs) rfl rfl ?_; rintro _ _ ⟨b2, rfl, hb2, hs, hE⟩)
    | (apply al_unit; refine JL_u (by apply as_store; exact OpR_store' hs rfl rfl rfl) rfl ?_; rintro _ _ ⟨hs, hF⟩))
  refine J_leave Tryz.func150 rfl (.agg' hs rfl rfl .nil) ⟨rfl, hs.frm.ext⟩
theorem ments_r (w : World) (id n : Int) (hi : inK .u64 id) : Ret Tryz.prog 161 #[.int .u64 id, .int .i64 n] w fun v w' => v = .bool (mentB id n) ∧ Ext w w' := by
  refine Ret_of (l := [_, _]) Tryz.func161 rfl Tryz.ntmps161 (by simp) ?_
  have hs := St.init w
  unfold mentB
  by_cases h1 : (partsM id).1 = n
  all_goals
    repeat' (first
      | ((apply al_call 159; refine JL_o (by exact OpR_callF en159 rfl (partsR_r _ id hi)) rfl rfl ?_; rintro _ _ ⟨rfl, hE⟩; have hs := hs.ext hE; (try simp only [List.cons_append, List.nil_append] at hs)))
      | (apply JL_nil)
      | ((first | (apply JL_pure) | (apply JL_pure_on; exact rfl; exact gb)); (first
      | (apply as_move; exact OpR_move rfl is_rfl)
      | (apply as_assign; exact OpR_assign rfl is_rfl)
      | (apply as_binOp; exact OpR_ibin rfl rfl rfl is_rfl)
      | (apply as_pick; first | exact OpR_pick_t rfl gb rfl is_rfl | exact OpR_pick_f rfl gb rfl is_rfl)
      | (apply as_extract; exact OpR_extract rfl rfl is_rfl)); first | (exact rfl; exact rfl) | exact rfl)
      | (apply J_seq)
      | (apply J_region)
      | (apply al_guard; (refine JL_no rfl gb rfl ?_)))
    refine J_leave Tryz.func161 rfl (.tmp rfl .nil) ⟨by simp [mkRes, h1], hs.frm.ext⟩
theorem rmay_r (w : World) (h : HH) (hi : okH h) : Ret Tryz.prog 72 #[.agg (cH h).toArray] w fun v w' => v = .bool (mayH h) ∧ Ext w w' := by
  refine Ret_of (l := [_]) Tryz.func72 rfl Tryz.ntmps72 (by simp) ?_
  have hs := St.init w
  unfold mayH inB
  by_cases h1 : kindM h.2 = 3
  · by_cases h2 : 1 ≤ h.1
    all_goals
      repeat' (first
        | ((apply al_call 152; refine JL_o (by exact OpR_callF en152 rfl (kind_r _ h.2 hi.2)) rfl rfl ?_; rintro _ _ ⟨rfl, hE⟩; have hs := hs.ext hE; (try simp only [List.cons_append, List.nil_append] at hs)))
        | (apply JL_nil)
        | ((first | (apply JL_pure) | (apply JL_pure_on; exact rfl; exact gb)); (first
      | (apply as_move; exact OpR_move rfl is_rfl)
      | (apply as_assign; exact OpR_assign rfl is_rfl)
      | (apply as_fieldAddr; exact OpR_fieldAddr0 rfl rfl is_rfl)
      | (apply as_load; exact OpR_load' hs rfl rfl is_rfl)
      | (apply as_binOp; exact OpR_ibin rfl rfl rfl is_rfl)
      | (apply as_pick; first | exact OpR_pick_t rfl gb rfl is_rfl | exact OpR_pick_f rfl gb rfl is_rfl)); first | (exact rfl; exact rfl) | exact rfl)
        | (apply J_seq)
        | (apply J_region)
        | (apply al_none (t := 1); refine JL_o (by apply as_box; exact OpR_box' hs rfl) rfl rfl ?_; rintro _ _ ⟨b1, rfl, hb1, hs, hE⟩)
        | (apply al_guard; (refine JL_no rfl gb rfl ?_)))
      refine J_leave Tryz.func72 rfl (.tmp rfl .nil) ⟨by simp [mkRes, h1, h2], hs.frm.ext⟩
  · repeat' (first
      | ((apply al_call 152; refine JL_o (by exact OpR_callF en152 rfl (kind_r _ h.2 hi.2)) rfl rfl ?_; rintro _ _ ⟨rfl, hE⟩; have hs := hs.ext hE; (try simp only [List.cons_append, List.nil_append] at hs)))
      | (apply JL_nil)
      | ((apply JL_pure); (first
      | (apply as_move; exact OpR_move rfl is_rfl)
      | (apply as_assign; exact OpR_assign rfl is_rfl)
      | (apply as_fieldAddr; exact OpR_fieldAddr0 rfl rfl is_rfl)
      | (apply as_load; exact OpR_load' hs rfl rfl is_rfl)
      | (apply as_binOp; exact OpR_ibin rfl rfl rfl is_rfl)
      | (apply as_pick; exact OpR_pick_f rfl gb rfl is_rfl)); first | (exact rfl; exact rfl) | exact rfl)
      | (apply J_seq)
      | (apply J_region)
      | (apply al_none (t := 1); refine JL_o (by apply as_box; exact OpR_box' hs rfl) rfl rfl ?_; rintro _ _ ⟨b1, rfl, hb1, hs, hE⟩)
      | (apply al_guard; (refine JL_no rfl gb rfl ?_)))
    refine J_leave Tryz.func72 rfl (.tmp rfl .nil) ⟨by simp [mkRes, h1], hs.frm.ext⟩
theorem may15_r (w : World) (h : HH) (hi : okH h) : Ret Tryz.prog 18 #[.agg (cH h).toArray] w fun v w' => v = .bool (mayH h) ∧ Ext w w' := by
  refine Ret_of (l := [_]) Tryz.func18 rfl Tryz.ntmps18 (by simp) ?_
  have hs := St.init w
  unfold mayH
  by_cases h1 : kindM h.2 = 3
  all_goals
    repeat' (first
      | ((apply al_call 28; refine JL_o (by exact OpR_callF en28 rfl (kindR_r _ h.2 hi.2)) rfl rfl ?_; rintro _ _ ⟨rfl, hE⟩; have hs := hs.ext hE; (try simp only [List.cons_append, List.nil_append] at hs)))
      | ((apply al_callg 27; refine JL_o_on rfl gb (by exact OpR_callF en27 rfl (isR_r _ _ _ _)) rfl rfl ?_; rintro _ _ ⟨rfl, hE⟩; have hs := hs.ext hE; (try simp only [List.cons_append, List.nil_append] at hs)))
      | (apply JL_nil)
      | ((first | (apply JL_pure) | (apply JL_pure_on; exact rfl; exact gb)); (first
      | (apply as_move; exact OpR_move rfl is_rfl)
      | (apply as_assign; exact OpR_assign rfl is_rfl)
      | (apply as_fieldAddr; exact OpR_fieldAddr0 rfl rfl is_rfl)
      | (apply as_load; exact OpR_load' hs rfl rfl is_rfl)
      | (apply as_binOp; exact OpR_ibin rfl rfl rfl is_rfl)
      | (apply as_pick; first | exact OpR_pick_t rfl gb rfl is_rfl | exact OpR_pick_f rfl gb rfl is_rfl)); first | (exact rfl; exact rfl) | exact rfl)
      | (apply J_seq)
      | (apply J_region)
      | (apply al_none (t := 1); refine JL_o (by apply as_box; exact OpR_box' hs rfl) rfl rfl ?_; rintro _ _ ⟨b1, rfl, hb1, hs, hE⟩)
      | (apply al_guard; (refine JL_no rfl gb rfl ?_)))
    refine J_leave Tryz.func18 rfl (.tmp rfl .nil) ⟨by simp [mkRes, h1], hs.frm.ext⟩
theorem isNaNi_r (w : World) (x : Int) : Ret Tryz.prog 204 #[.int .i64 x] w fun v w' => v = .bool false ∧ Ext w w' := by
  refine Ret_of (l := [_]) Tryz.func204 rfl Tryz.ntmps204 (by simp) ?_
  have hs := St.init w
  repeat' (first
    | (apply JL_nil)
    | ((apply JL_pure); (first
      | (apply as_move; exact OpR_move rfl is_rfl)
      | (apply as_assign; exact OpR_assign rfl is_rfl)
      | (apply as_binOp; exact OpR_ibin rfl rfl rfl is_rfl)); first | (exact rfl; exact rfl) | exact rfl)
    | (apply J_seq)
    | (apply J_region))
  refine J_leave Tryz.func204 rfl (.tmp rfl .nil) ⟨by simp [mkRes], hs.frm.ext⟩
theorem comparei_r (w : World) (x y : Int) : Ret Tryz.prog 148 #[.int .i64 x, .int .i64 y] w fun v w' => v = .int .i64 (cmpI x y) ∧ Ext w w' := by
  refine Ret_of (l := [_, _]) Tryz.func148 rfl Tryz.ntmps148 (by simp) ?_
  have hs := St.init w
  rcases Int.lt_trichotomy x y with h | h | h
  · rw [cmpI_lt h]
    repeat' (first
      | ((apply al_call 204; refine JL_o (by exact OpR_callF en204 rfl (isNaNi_r _ _)) rfl rfl ?_; rintro _ _ ⟨rfl, hE⟩; have hs := hs.ext hE; (try simp only [List.cons_append, List.nil_append] at hs)))
      | (apply JL_nil)
      | ((apply JL_pure); (first
      | (apply as_move; exact OpR_move rfl is_rfl)
      | (apply as_assign; exact OpR_assign rfl is_rfl)
      | (apply as_binOp; exact OpR_ibin rfl rfl rfl is_rfl)); first | (exact rfl; exact rfl) | exact rfl)
      | (apply J_seq)
      | (apply J_region)
      | (apply J_skip)
      | (apply aj_cond; first | refine J_dec_t rfl ob ?_ | refine J_cond_f rfl gb ?_))
    refine J_leave Tryz.func148 rfl (.tmp rfl .nil) ⟨rfl, hs.frm.ext⟩
  · subst h
    rw [cmpI_self]
    repeat' (first
      | ((apply al_call 204; refine JL_o (by exact OpR_callF en204 rfl (isNaNi_r _ _)) rfl rfl ?_; rintro _ _ ⟨rfl, hE⟩; have hs := hs.ext hE; (try simp only [List.cons_append, List.nil_append] at hs)))
      | (apply JL_nil)
      | ((apply JL_pure); (first
      | (apply as_move; exact OpR_move rfl is_rfl)
      | (apply as_assign; exact OpR_assign rfl is_rfl)
      | (apply as_binOp; exact OpR_ibin rfl rfl rfl is_rfl)); first | (exact rfl; exact rfl) | exact rfl)
      | (apply J_seq)
      | (apply J_region)
      | (apply J_skip)
      | (apply aj_cond; first | refine J_dec_f rfl ob ?_ | refine J_cond_f rfl gb ?_))
    refine J_leave Tryz.func148 rfl (.tmp rfl .nil) ⟨rfl, hs.frm.ext⟩
  · rw [cmpI_gt h]
    repeat' (first
      | ((apply al_call 204; refine JL_o (by exact OpR_callF en204 rfl (isNaNi_r _ _)) rfl rfl ?_; rintro _ _ ⟨rfl, hE⟩; have hs := hs.ext hE; (try simp only [List.cons_append, List.nil_append] at hs)))
      | (apply JL_nil)
      | ((apply JL_pure); (first
      | (apply as_move; exact OpR_move rfl is_rfl)
      | (apply as_assign; exact OpR_assign rfl is_rfl)
      | (apply as_binOp; exact OpR_ibin rfl rfl rfl is_rfl)); first | (exact rfl; exact rfl) | exact rfl)
      | (apply J_seq)
      | (apply J_region)
      | (apply J_skip)
      | (apply aj_cond; first | refine J_dec_t rfl ob ?_ | refine J_dec_f rfl ob ?_ | refine J_cond_f rfl gb ?_))
    refine J_leave Tryz.func148 rfl (.tmp rfl .nil) ⟨rfl, hs.frm.ext⟩
theorem or_r (w : World) (a : Option Addr) (n c : Nat) (xs : List Int) (h : Sl (tInt .i64) All w a n c xs) :
    Ret Tryz.prog 155 #[.slice a n c] w fun v w' => v = .int .i64 (orL xs) ∧ Ext w w' := by
  refine Ret_of (l := [_]) Tryz.func155 rfl Tryz.ntmps155 (by simp) ?_
  have hs := St.init w
  have hl := h.len
  have hmx : n ≤ 9223372036854775807 := by have h1 := h.le; have h2 := h.cap; unfold maxLen at h2; omega
  repeat' (first
    | (apply JL_nil)
    | ((apply JL_pure); (first
      | (apply as_move; exact OpR_move rfl is_rfl)
      | (apply as_assign; exact OpR_assign rfl is_rfl)
      | (apply as_b_len; exact OpR_len rfl is_rfl)); first | (exact rfl; exact rfl) | exact rfl)
    | (apply J_seq)
    | (apply J_region)
    | (apply J_block))
  refine J_loopK (α := Nat) [(3, _), (6, _), (7, _)] (fun k => [(8, .int .i64 k)]) (fun k w' => St w NoF w' [] ∧ k ≤ n ∧ orL xs = orL (xs.drop k)) (fun k => n - k) 0 ⟨hs, Nat.zero_le _, rfl⟩ (by repeat' (first | exact trivial | exact rfl | apply And.intro)) ?_
  rintro k w2 ⟨hs1, hk, hor⟩ ih
  have hs : St w NoF w2 [] := hs1
  by_cases hlt : k < n
  · obtain ⟨p, o, rfl⟩ := h.sl.addr (by omega)
    have hs : St w NoF w2 [] := hs1
    have hx : xs[k]? = some (xs[k]'(by omega)) := List.getElem?_eq_getElem (by omega)
    obtain ⟨x, hxd⟩ : ∃ x, x = xs[k]'(by omega) := ⟨_, rfl⟩
    rw [← hxd] at hx
    have hd : xs.drop k = x :: xs.drop (k + 1) := by rw [hxd]; exact List.drop_eq_getElem_cons (by omega)
    rw [hd, orL] at hor
    by_cases h0 : x = 0
    · rw [if_pos h0] at hor
      repeat' (first
        | (apply JL_nil)
        | ((apply JL_pure); (first
      | (apply as_load; exact OpR_load_el1 (i := k) (j := 0) (h.st hs) hx rfl rfl rfl is_rfl)
      | (apply as_move; exact OpR_move rfl is_rfl)
      | (apply as_assign; exact OpR_assign rfl is_rfl)
      | (apply as_add; exact OpR_addn rfl rfl (by omega) (by first | (simp only [Int.reduceAdd]; exact rfl) | exact rfl) is_rfl)
      | (apply as_binOp; exact OpR_ibin rfl rfl rfl is_rfl)
      | (apply as_indexAddr; exact OpR_indexAddr rfl rfl (by omega) (by omega) is_rfl)); first | (exact rfl; exact rfl) | exact rfl)
        | (apply J_seq)
        | (apply J_region)
        | (apply J_block)
        | (apply J_inBlock)
        | (apply J_skip)
        | (apply aj_cond; first | refine J_dec_t rfl ob ?_ | refine J_dec_f rfl ob ?_))
      refine ih (k + 1) _ _ ⟨hs, hlt, hor⟩ (by omega) (by repeat' (first | exact trivial | exact rfl | apply And.intro))
    · rw [if_neg h0] at hor
      repeat' (first
        | (apply JL_nil)
        | ((apply JL_pure); (first
      | (apply as_load; exact OpR_load_el1 (i := k) (j := 0) (h.st hs) hx rfl rfl rfl is_rfl)
      | (apply as_move; exact OpR_move rfl is_rfl)
      | (apply as_assign; exact OpR_assign rfl is_rfl)
      | (apply as_binOp; exact OpR_ibin rfl rfl rfl is_rfl)
      | (apply as_indexAddr; exact OpR_indexAddr rfl rfl (by omega) (by omega) is_rfl)); first | (exact rfl; exact rfl) | exact rfl)
        | (apply J_seq)
        | (apply J_region)
        | (apply J_block)
        | (apply J_skip)
        | (apply aj_cond; refine J_dec_t rfl ob ?_))
      refine J_leave Tryz.func155 rfl (.tmp rfl .nil) ⟨by rw [hor]; rfl, hs.frm.ext⟩
  · rw [List.drop_eq_nil_of_le (by omega)] at hor
    repeat' (first
      | (apply JL_nil)
      | ((apply JL_pure); (first
      | (apply as_move; exact OpR_move rfl is_rfl)
      | (apply as_assign; exact OpR_assign rfl is_rfl)
      | (apply as_binOp; exact OpR_ibin rfl rfl rfl is_rfl)); first | (exact rfl; exact rfl) | exact rfl)
      | (apply J_seq)
      | (apply J_region)
      | (apply aj_exit; refine J_exit rfl ?_)
      | (apply aj_cond; refine J_dec_f rfl ob ?_))
    refine J_leave Tryz.func155 rfl (.tmp rfl .nil) ⟨by rw [hor]; rfl, hs.frm.ext⟩
theorem hcompare_r (w : World) (a b : HH) (ha : okH a) (hb : okH b) : Ret Tryz.prog 77 #[.agg (cH a).toArray, .agg (cH b).toArray] w fun v w' => v = .int .i64 (cmpH a b) ∧ Ext w w' := by
  refine Ret_of (l := [_, _]) Tryz.func77 rfl Tryz.ntmps77 (by simp) ?_
  have hs := St.init w
  have hr1 := cmpI_range a.1 b.1
  have hr2 := cmpI_range a.2 b.2
  have hin : ∀ v ∈ [cmpI a.1 b.1, cmpI a.2 b.2], inK .i64 v := by intro v hv; unfold inK; simp only [List.mem_cons, List.not_mem_nil, or_false] at hv; rcases hv with rfl | rfl <;> omega
  repeat' (first
    | ((apply ax_c; apply JX_cF 148; exact rfl; (intro W X hN hs; exact OpR_callF en148 rfl (comparei_r _ a.1 b.1)); (rintro _ _ _ _ ⟨rfl, hE⟩; first | exact hE | exact Fresh.ext hf); rintro W X _ _ hN hs ⟨rfl, hE⟩; have hs := hs.ext hE; (try simp only [List.cons_append, List.nil_append] at hs); refine JX.at hs ?_))
    | ((apply ax_c; apply JX_cF 138; exact rfl; (intro W X hN hs; exact OpR_callF en138 rfl (compare_r _ a.2 b.2 ha.2 hb.2)); (rintro _ _ _ _ ⟨rfl, hE⟩; first | exact hE | exact Fresh.ext hf); rintro W X _ _ hN hs ⟨rfl, hE⟩; have hs := hs.ext hE; (try simp only [List.cons_append, List.nil_append] at hs); refine JX.at hs ?_))
    | ((apply ax_c; apply JX_cF 155; exact rfl; (intro W X hN hs; exact OpR_callF en155 rfl (or_r _ (some ⟨b15, 0, none⟩) 2 2 [cmpI a.1 b.1, cmpI a.2 b.2] (sl_blkE _ hs.blk rfl hin (by unfold maxLen; simp)))); (rintro _ _ _ _ ⟨rfl, hE⟩; first | exact hE | exact Fresh.ext hf); rintro W X _ _ hN hs ⟨rfl, hE⟩; have hs := hs.ext hE; (try simp only [List.cons_append, List.nil_append] at hs); refine JX.at hs ?_))
    | (apply JL_nil)
    | ((first | (apply JL_pure) | (apply JX_f; exact rfl; intro W X hs)); (first
      | (apply as_assign; exact OpR_assign rfl is_rfl)
      | (apply as_fieldAddr; exact OpR_fieldAddr0 rfl rfl is_rfl)
      | (apply as_load; exact OpR_load' hs rfl rfl is_rfl)); first | (exact rfl; exact rfl) | exact rfl)
    | (apply J_seq)
    | (apply J_region)
    | (apply al_none (t := 2); refine JL_o (by apply as_box; exact OpR_box' hs rfl) rfl rfl ?_; rintro _ _ ⟨b2, rfl, hb2, hs, hE⟩)
    | (apply al_none (t := 3); refine JL_o (by apply as_box; exact OpR_box' hs rfl) rfl rfl ?_; rintro _ _ ⟨b3, rfl, hb3, hs, hE⟩)
    | (apply ax_n; refine JX_n (t := 15) rfl (fun W L hs => by apply as_buildSlice; exact OpR_buildSlice hs rfl (by omega) rfl) rfl ?_)
    | (apply ax_k; (first | refine JX_k (t := 15) ?_ | refine JX_k2 (t := 15) rfl ?_); intro b15)
    | (apply aj_draw; (refine J_drawX (id := 1) [0, 1, 0, 4, 15, 0, 32, 0, 128, 511, 1023, 2047, 4095] [(0, 0), (1, 0), (2, 0), (3, 0), (5, 0), (6, 0), (7, 0), (8, 0), (4, 1), (9, 1), (10, 2), (10, 3), (11, 1), (12, 0)] [] hs mixed (by kernel_rfl) (by kernel_rfl) (by kernel_rfl) (by kernel_rfl) (by kernel_rfl) ?_))
    | (refine JX_done (fun W hs => ?_))
    | (apply JD_done))
  refine J_leave Tryz.func77 rfl (.tmp rfl .nil) ⟨?_, hs.frm.ext⟩
  show Value.int .i64 _ = Value.int .i64 _
  unfold orL orL orL cmpH
  by_cases h : cmpI a.1 b.1 = 0
  · rw [if_pos h, if_pos h]
    split
    · rename_i h2; rw [h2]
    · rfl
  · rw [if_neg h, if_neg h]
theorem ahead15_r (w : World) (a b : HH) : Ret Tryz.prog 82 #[.agg (cH a).toArray, .agg (cH b).toArray] w fun v w' => v = .bool (aheadH a b) ∧ Ext w w' := by
  refine Ret_of (l := [_, _]) Tryz.func82 rfl Tryz.ntmps82 (by simp) ?_
  have hs := St.init w
  unfold aheadH
  by_cases h1 : a.1 < b.1
  · repeat' (first
      | (apply JL_nil)
      | ((apply JL_pure); (first
      | (apply as_move; exact OpR_move rfl is_rfl)
      | (apply as_assign; exact OpR_assign rfl is_rfl)
      | (apply as_fieldAddr; exact OpR_fieldAddr0 rfl rfl is_rfl)
      | (apply as_load; exact OpR_load' hs rfl rfl is_rfl)
      | (apply as_binOp; exact OpR_ibin rfl rfl rfl is_rfl)
      | (apply as_pick; exact OpR_pick_t rfl gb rfl is_rfl)); first | (exact rfl; exact rfl) | exact rfl)
      | (apply J_seq)
      | (apply J_region)
      | (apply al_none (t := 2); refine JL_o (by apply as_box; exact OpR_box' hs rfl) rfl rfl ?_; rintro _ _ ⟨b2, rfl, hb2, hs, hE⟩)
      | (apply al_none (t := 3); refine JL_o (by apply as_box; exact OpR_box' hs rfl) rfl rfl ?_; rintro _ _ ⟨b3, rfl, hb3, hs, hE⟩)
      | (apply al_guard; first
    | (refine JL_nou rfl rfl ?_)
    | (refine JL_no rfl gb rfl ?_)))
    refine J_leave Tryz.func82 rfl (.tmp rfl .nil) ⟨by simp [mkRes, h1], hs.frm.ext⟩
  · by_cases h2 : a.1 = b.1
    · repeat' (first
        | (apply JL_nil)
        | ((first | (apply JL_pure) | (apply JL_pure_on; exact rfl; exact gb)); (first
      | (apply as_move; exact OpR_move rfl is_rfl)
      | (apply as_assign; exact OpR_assign rfl is_rfl)
      | (apply as_fieldAddr; exact OpR_fieldAddr0 rfl rfl is_rfl)
      | (apply as_load; exact OpR_load' hs rfl rfl is_rfl)
      | (apply as_binOp; exact OpR_ibin rfl rfl rfl is_rfl)
      | (apply as_pick; first | exact OpR_pick_t rfl gb rfl is_rfl | exact OpR_pick_f rfl gb rfl is_rfl)); first | (exact rfl; exact rfl) | exact rfl)
        | (apply J_seq)
        | (apply J_region)
        | (apply al_none (t := 2); refine JL_o (by apply as_box; exact OpR_box' hs rfl) rfl rfl ?_; rintro _ _ ⟨b2, rfl, hb2, hs, hE⟩)
        | (apply al_none (t := 3); refine JL_o (by apply as_box; exact OpR_box' hs rfl) rfl rfl ?_; rintro _ _ ⟨b3, rfl, hb3, hs, hE⟩))
      refine J_leave Tryz.func82 rfl (.tmp rfl .nil) ⟨by simp [mkRes, h1, h2], hs.frm.ext⟩
    · repeat' (first
        | (apply JL_nil)
        | ((first | (apply JL_pure) | (apply JL_pure_on; exact rfl; exact gb)); (first
      | (apply as_move; exact OpR_move rfl is_rfl)
      | (apply as_assign; exact OpR_assign rfl is_rfl)
      | (apply as_fieldAddr; exact OpR_fieldAddr0 rfl rfl is_rfl)
      | (apply as_load; exact OpR_load' hs rfl rfl is_rfl)
      | (apply as_binOp; exact OpR_ibin rfl rfl rfl is_rfl)
      | (apply as_pick; exact OpR_pick_f rfl gb rfl is_rfl)); first | (exact rfl; exact rfl) | exact rfl)
        | (apply J_seq)
        | (apply J_region)
        | (apply al_none (t := 2); refine JL_o (by apply as_box; exact OpR_box' hs rfl) rfl rfl ?_; rintro _ _ ⟨b2, rfl, hb2, hs, hE⟩)
        | (apply al_none (t := 3); refine JL_o (by apply as_box; exact OpR_box' hs rfl) rfl rfl ?_; rintro _ _ ⟨b3, rfl, hb3, hs, hE⟩)
        | (apply al_guard; (refine JL_no rfl gb rfl ?_)))
      refine J_leave Tryz.func82 rfl (.tmp rfl .nil) ⟨by simp [mkRes, h1, h2], hs.frm.ext⟩
end Go.Eng
/- Referrers: the reference's rows of what is held. -/
namespace Go.Eng
open Go.Proofs
set_option linter.unusedSimpArgs false
set_option linter.unusedVariables false
theorem eqHeld (a b c d : Int) : EqlT Tryz.prog 31 (.agg #[.int .i64 a, .int .u64 b]) (.agg #[.int .i64 c, .int .u64 d]) (a = c ∧ b = d) instDecidableAnd := by
  refine ⟨fun w => ?_, ⟨_, _, rfl, rfl⟩, by kernel_rfl⟩
  have u3 := Tryz.underlying3
  have a3 := Tryz.isAgg3
  have z3 := Tryz.sizeOf3
  have u4 := Tryz.underlying29
  have a4 := Tryz.isAgg29
  have z4 := Tryz.sizeOf29
  have hS : Tryz.prog.underlying 31 = some (.struct (Tryz.prog.fieldsOf 31)) := by kernel_rfl
  have hp : Tryz.prog.stoodInHeld 31 = false := by kernel_rfl
  rw [show (10000 : Nat) = 9999 + 1 from rfl, run_equalIn_agg w 9999 31 _ _ hS hp]
  simp only [Program.fieldsOf, Tryz.underlying31]
  go_simp
  by_cases h1 : a = c <;> by_cases h2 : b = d <;> simp [h1, h2]
instance (a b c d : Int) : EqlT Tryz.prog 31 (.agg #[.int .i64 a, .int .u64 b]) (.agg #[.int .i64 c, .int .u64 d]) (a = c ∧ b = d) instDecidableAnd := eqHeld a b c d
theorem hh_eq {x y : HH} : (x.1 = y.1 ∧ x.2 = y.2) ↔ x = y := ⟨fun h => Prod.ext h.1 h.2, fun h => by subst h; exact ⟨rfl, rfl⟩⟩
abbrev RowH (a : Option Addr) (n c : Nat) (xs : List HH) : HP := Row a n c 31 2 (encL cH xs)
abbrev RowI (a : Option Addr) (n c : Nat) (xs : List Int) : HP := Row a n c 3 1 (xs.map (.int .i64))
theorem encH_snoc (xs : List HH) (x : HH) : encL cH xs ++ cH x = encL cH (xs ++ [x]) := by rw [encL_app]; simp [encL]
theorem src_blk2 {w : World} {b e : Nat} {r : HH} {fz : Nat × Nat} (h : w.heap[b]? = some (.cells #[.int .i64 r.1, .int .u64 r.2] e fz)) : Src w (some ⟨b, 0, none⟩) 1 2 (cH r) := by
  refine ⟨rfl, fun h => (nomatch h), fun u hu => ?_, fun b' o hb j u hj => ?_⟩
  · simp only [List.mem_cons, List.not_mem_nil, or_false] at hu
    rcases hu with rfl | rfl <;> rfl
  · cases hb
    exact cell_blk h (by rw [Nat.zero_add]; exact hj)
theorem src_blkI {w : World} {b e : Nat} {x : Int} {fz : Nat × Nat} (h : w.heap[b]? = some (.cells #[.int .i64 x] e fz)) : Src w (some ⟨b, 0, none⟩) 1 1 [.int .i64 x] := by
  refine ⟨rfl, fun h => (nomatch h), fun u hu => ?_, fun b' o hb j u hj => ?_⟩
  · simp only [List.mem_cons, List.not_mem_nil, or_false] at hu
    rw [hu]; rfl
  · cases hb
    exact cell_blk h (by rw [Nat.zero_add]; exact hj)
/-- A row of one's own, as it is read. -/
theorem slH {w0 w : World} {F : Nat → Prop} {L : List HP} {a : Option Addr} {n c : Nat} {xs : List HH} (hs : St w0 F w L) (h : RowH a n c xs ∈ L) (hok : ∀ x ∈ xs, okH x) : Sl dHeld All w a n c xs := (RowV.slF (d := dHeld) (hs.all _ h) (by decide) hok).weak (fun _ _ => trivial)
theorem slI {w0 w : World} {F : Nat → Prop} {L : List HP} {a : Option Addr} {n c : Nat} {xs : List Int} (hs : St w0 F w L) (h : RowI a n c xs ∈ L) (hok : ∀ x ∈ xs, inK .i64 x) : Sl (tInt .i64) All w a n c xs := (RowV.sl (hs.all _ h) hok).weak (fun _ _ => trivial)
theorem sl_okH {w : World} {a : Option Addr} {n c : Nat} {xs : List HH} {R : Nat → Prop} (h : Sl dHeld R w a n c xs) : ∀ x ∈ xs, okH x := (h.srcF).2.2
theorem sl_okI {w : World} {a : Option Addr} {n c : Nat} {xs : List Int} {R : Nat → Prop} {k : IntKind} (h : Sl (tInt k) R w a n c xs) : ∀ x ∈ xs, inK k x := (h.srcF).2.2
theorem filter_succ {α : Type} {l : List α} {k : Nat} {x : α} (p : α → Bool) (hx : l[k]? = some x) : (l.take (k + 1)).filter p = (l.take k).filter p ++ if p x then [x] else [] := by
  rw [List.take_add_one, hx, List.filter_append]
  congr 1
  by_cases h : p x = true
  · simp [h]
  · simp [h]
theorem filter_le {α : Type} {l : List α} {k : Nat} (p : α → Bool) : ((l.take k).filter p).length ≤ k := Nat.le_trans (List.length_filter_le _ _) (by rw [List.length_take]; omega)
theorem withH_len (l : List HH) (x : HH) : (withH l x).length ≤ 2 * l.length + 1 := by
  unfold withH
  rw [List.length_append, List.length_cons]
  have h1 := List.length_filter_le (fun y => aheadH y x) l
  have h2 := List.length_filter_le (fun y => aheadH x y) l
  omega
theorem withH_len' (l : List HH) (x : HH) : (withH l x).length ≤ l.length + 1 := by
  unfold withH
  have key : ∀ l : List HH, (l.filter fun y => aheadH y x).length + (l.filter fun y => aheadH x y).length ≤ l.length := by
    intro l
    induction l with
    | nil => simp
    | cons y l ih =>
      rw [List.filter_cons, List.filter_cons]
      by_cases h1 : aheadH y x = true
      · rw [if_pos h1, if_neg (ahead_asym h1)]; simp; omega
      · rw [if_neg h1]
        split <;> simp <;> omega
  rw [List.length_append, List.length_cons]
  have := key l
  omega
attribute [local irreducible] Hold J JL JD JX JXat OpR OpG Ret RetV Is Blk Row MapC
set_option maxRecDepth 100000
set_option maxHeartbeats 1000000
theorem map_snoc (xs : List Int) (x : Int) : List.map (Value.int .i64) xs ++ [.int .i64 x] = List.map (Value.int .i64) (xs ++ [x]) := by rw [List.map_append]; rfl
theorem with15_r (w : World) (a : Option Addr) (n c : Nat) (l : List HH) (x : HH) (h : Sl dHeld All w a n c l) (hn : n ≤ 4000000) :
    Ret Tryz.prog 19 #[.slice a n c, .agg (cH x).toArray] w fun v w' => ∃ a' c', v = .slice a' (withH l x).length c' ∧ Fresh w w' [RowH a' (withH l x).length c' (withH l x)] := by
  refine Ret_of (l := [_, _]) Tryz.func19 rfl Tryz.ntmps19 (by simp) ?_
  have hs := St.init w
  have hl := h.len
  repeat' (first
    | (apply JL_nil)
    | ((apply JL_pure); (first
      | (apply as_move; exact OpR_move rfl is_rfl)
      | (apply as_assign; exact OpR_assign rfl is_rfl)
      | (apply as_b_len; exact OpR_len rfl is_rfl)); first | (exact rfl; exact rfl) | exact rfl)
    | (apply J_seq)
    | (apply J_region)
    | (apply J_block)
    | (apply al_none (t := 3); refine JL_o (by apply as_box; exact OpR_box' hs rfl) rfl rfl ?_; rintro _ _ ⟨b3, rfl, hb3, hs, hE⟩))
  have hs := hs.nilRow 31 2
  refine J_loopK (α := Nat × List HH × Option Addr × Nat) [(0, _), (3, _), (10, _), (11, _)] (fun g => [(5, .slice g.2.2.1 g.2.1.length g.2.2.2), (12, .int .i64 g.1)]) (fun g w' => St w NoF w' [RowH g.2.2.1 g.2.1.length g.2.2.2 g.2.1, Blk b3 (.cells #[.int .i64 x.1, .int .u64 x.2] 31 (0, 0))] ∧ g.1 ≤ n ∧ g.2.1 = (l.take g.1).filter (fun y => aheadH y x)) (fun g => n - g.1) (0, [], none, 0) ⟨hs, Nat.zero_le _, rfl⟩ (by repeat' (first | exact trivial | exact rfl | apply And.intro)) ?_
  rintro ⟨k, zs, a', c'⟩ w2 ⟨hs1, hk, hzs⟩ ih
  dsimp only at hs1 hk hzs ih ⊢
  have hzl : zs.length ≤ 0 + k := by rw [hzs]; have := filter_le (l := l) (k := k) (fun y => aheadH y x); omega
  by_cases hlt : k < n
  · obtain ⟨p, o, rfl⟩ := h.sl.addr (by omega)
    have hs : St w NoF w2 [_, _] := hs1
    have hx : l[k]? = some (l[k]'(by omega)) := List.getElem?_eq_getElem (by omega)
    obtain ⟨y, hyd⟩ : ∃ y, y = l[k]'(by omega) := ⟨_, rfl⟩
    rw [← hyd] at hx
    have hfs := filter_succ (fun y => aheadH y x) hx
    by_cases hc : aheadH y x = true
    · rw [if_pos hc] at hfs
      repeat' (first
        | ((apply al_call 82; refine JL_o (by exact OpR_callF en82 rfl (ahead15_r _ y x)) rfl rfl ?_; rintro _ _ ⟨rfl, hE⟩; rw [hc]; have hs := hs.ext hE; (try simp only [List.cons_append, List.nil_append] at hs)))
        | ((apply al_none (t := 22); refine JL_o (by apply as_b_append; exact OpR_append (xs := encL cH zs) (news := cH y) hs rfl rfl (src_blk2 (hs.blk (b := b21))) plain_blk rfl (by omega) (by unfold maxLen; omega)) rfl rfl ?_; rintro _ _ ⟨a4, c4, rfl, hs, hF, hnil⟩; rw [show encL cH zs ++ cH y = encL cH (zs ++ [y]) from encH_snoc zs y] at hs))
        | (apply JL_nil)
        | ((apply JL_pure); (first
      | (apply as_load; first | exact OpR_load' hs rfl rfl is_rfl | exact OpR_load_agg' hs rfl is_rfl | exact OpR_load_el (h.st hs) hx rfl rfl is_rfl)
      | (apply as_move; exact OpR_move rfl is_rfl)
      | (apply as_assign; exact OpR_assign rfl is_rfl)
      | (apply as_add; exact OpR_addn rfl rfl (by omega) (by first | (simp only [Int.reduceAdd]; exact rfl) | exact rfl) is_rfl)
      | (apply as_binOp; exact OpR_ibin rfl rfl rfl is_rfl)
      | (apply as_indexAddr; exact OpR_indexAddr rfl rfl (by omega) (by omega) is_rfl)); first | (exact rfl; exact rfl) | exact rfl)
        | (apply J_seq)
        | (apply J_region)
        | (apply J_block)
        | (apply J_inBlock)
        | (apply J_skip)
        | (apply al_none (t := 7); refine JL_o (by apply as_alloc; exact OpR_alloc' hs) rfl rfl ?_; rintro _ _ ⟨b7, rfl, hb7, hs, hE⟩)
        | (apply al_none (t := 21); refine JL_o (by apply as_buildSlice; exact OpR_buildSlice hs rfl (by omega) rfl) rfl rfl ?_; rintro _ _ ⟨b21, rfl, hb21, hs, hE⟩)
        | (apply al_unit; refine JL_u (by apply as_store; exact OpR_store' hs rfl rfl rfl) rfl ?_; rintro _ _ ⟨hs, hF⟩)
        | (apply aj_cond; first | refine J_dec_t rfl ob ?_ | refine J_cond_t rfl gb ?_))
      refine ih (k + 1, zs ++ [y], a4, c4) _ _ ⟨by rw [List.length_append]; exact hs.sel [2, 3] (by decide), hlt, by show zs ++ [y] = _; rw [hfs]; (try rw [hzs]); try simp⟩ (by show n - (k + 1) < n - k; omega) (by rw [List.length_append]; repeat' (first | exact trivial | exact rfl | apply And.intro))
    · rw [if_neg hc, List.append_nil] at hfs
      have hc2 : aheadH y x = false := by simpa using hc
      repeat' (first
        | ((apply al_call 82; refine JL_o (by exact OpR_callF en82 rfl (ahead15_r _ y x)) rfl rfl ?_; rintro _ _ ⟨rfl, hE⟩; rw [hc2]; have hs := hs.ext hE; (try simp only [List.cons_append, List.nil_append] at hs)))
        | (apply JL_nil)
        | ((apply JL_pure); (first
      | (apply as_load; first | exact OpR_load' hs rfl rfl is_rfl | exact OpR_load_agg' hs rfl is_rfl | exact OpR_load_el (h.st hs) hx rfl rfl is_rfl)
      | (apply as_move; exact OpR_move rfl is_rfl)
      | (apply as_add; exact OpR_addn rfl rfl (by omega) (by first | (simp only [Int.reduceAdd]; exact rfl) | exact rfl) is_rfl)
      | (apply as_binOp; exact OpR_ibin rfl rfl rfl is_rfl)
      | (apply as_indexAddr; exact OpR_indexAddr rfl rfl (by omega) (by omega) is_rfl)); first | (exact rfl; exact rfl) | exact rfl)
        | (apply J_seq)
        | (apply J_region)
        | (apply J_block)
        | (apply J_inBlock)
        | (apply J_skip)
        | (apply al_none (t := 7); refine JL_o (by apply as_alloc; exact OpR_alloc' hs) rfl rfl ?_; rintro _ _ ⟨b7, rfl, hb7, hs, hE⟩)
        | (apply al_unit; refine JL_u (by apply as_store; exact OpR_store' hs rfl rfl rfl) rfl ?_; rintro _ _ ⟨hs, hF⟩)
        | (apply aj_cond; first | refine J_dec_t rfl ob ?_ | refine J_cond_f rfl gb ?_))
      refine ih (k + 1, zs, a', c') _ _ ⟨hs.sel [1, 2] (by decide), hlt, by show zs = _; rw [hfs, hzs]⟩ (by show n - (k + 1) < n - k; omega) (by repeat' (first | exact trivial | exact rfl | apply And.intro))
  · have hs : St w NoF w2 [_, _] := hs1
    rw [List.take_of_length_le (by omega)] at hzs
    repeat' (first
      | ((apply al_none (t := 27); refine JL_o (by apply as_b_append; exact OpR_append (xs := encL cH zs) (news := cH x) hs rfl rfl (src_blk2 (hs.blk (b := b26))) plain_blk rfl (by omega) (by unfold maxLen; omega)) rfl rfl ?_; rintro _ _ ⟨a4, c4, rfl, hs, hF, hnil⟩; rw [show encL cH zs ++ cH x = encL cH (zs ++ [x]) from encH_snoc zs x] at hs))
      | (apply JL_nil)
      | ((apply JL_pure); (first
      | (apply as_move; exact OpR_move rfl is_rfl)
      | (apply as_assign; exact OpR_assign rfl is_rfl)
      | (apply as_load; exact OpR_load_agg' hs rfl is_rfl)
      | (apply as_binOp; exact OpR_ibin rfl rfl rfl is_rfl)
      | (apply as_b_len; exact OpR_len rfl is_rfl)); first | (exact rfl; exact rfl) | exact rfl)
      | (apply J_seq)
      | (apply J_region)
      | (apply J_block)
      | (apply aj_exit; refine J_exit rfl ?_)
      | (apply al_none (t := 26); refine JL_o (by apply as_buildSlice; exact OpR_buildSlice hs rfl (by omega) rfl) rfl rfl ?_; rintro _ _ ⟨b26, rfl, hb26, hs, hE⟩)
      | (apply aj_cond; refine J_dec_f rfl ob ?_))
    refine J_loopK (α := Nat × List HH × Option Addr × Nat) [(3, _), (28, _), (29, _)] (fun g => [(5, .slice g.2.2.1 g.2.1.length g.2.2.2), (30, .int .i64 g.1)]) (fun g w' => St w NoF w' [RowH g.2.2.1 g.2.1.length g.2.2.2 g.2.1, Blk b3 (.cells #[.int .i64 x.1, .int .u64 x.2] 31 (0, 0))] ∧ g.1 ≤ n ∧ g.2.1 = (l.filter (fun y => aheadH y x) ++ [x]) ++ (l.take g.1).filter (fun y => aheadH x y)) (fun g => n - g.1) (0, zs ++ [x], a4, c4) ⟨(by rw [List.length_append]; exact hs.sel [1, 2] (by decide)), Nat.zero_le _, by show zs ++ [x] = _; rw [hzs, List.take_zero]; simp⟩ (by rw [List.length_append]; repeat' (first | exact trivial | exact rfl | apply And.intro)) ?_
    rintro ⟨k, zs, a', c'⟩ w2 ⟨hs1, hk, hzs⟩ ih
    dsimp only at hs1 hk hzs ih ⊢
    have hzl : zs.length ≤ n + 1 + k := by rw [hzs]; have h1 := List.length_filter_le (fun y => aheadH y x) l; have h2 := filter_le (l := l) (k := k) (fun y => aheadH x y); rw [List.length_append, List.length_append]; simp only [List.length_cons, List.length_nil]; omega
    by_cases hlt : k < n
    · obtain ⟨p, o, rfl⟩ := h.sl.addr (by omega)
      have hs : St w NoF w2 [_, _] := hs1
      have hx : l[k]? = some (l[k]'(by omega)) := List.getElem?_eq_getElem (by omega)
      obtain ⟨y, hyd⟩ : ∃ y, y = l[k]'(by omega) := ⟨_, rfl⟩
      rw [← hyd] at hx
      have hfs := filter_succ (fun y => aheadH x y) hx
      by_cases hc : aheadH x y = true
      · rw [if_pos hc] at hfs
        repeat' (first
          | ((apply al_call 82; refine JL_o (by exact OpR_callF en82 rfl (ahead15_r _ x y)) rfl rfl ?_; rintro _ _ ⟨rfl, hE⟩; rw [hc]; have hs := hs.ext hE; (try simp only [List.cons_append, List.nil_append] at hs)))
          | ((apply al_none (t := 40); refine JL_o (by apply as_b_append; exact OpR_append (xs := encL cH zs) (news := cH y) hs rfl rfl (src_blk2 (hs.blk (b := b39))) plain_blk rfl (by omega) (by unfold maxLen; omega)) rfl rfl ?_; rintro _ _ ⟨a4, c4, rfl, hs, hF, hnil⟩; rw [show encL cH zs ++ cH y = encL cH (zs ++ [y]) from encH_snoc zs y] at hs))
          | (apply JL_nil)
          | ((apply JL_pure); (first
      | (apply as_load; first | exact OpR_load' hs rfl rfl is_rfl | exact OpR_load_agg' hs rfl is_rfl | exact OpR_load_el (h.st hs) hx rfl rfl is_rfl)
      | (apply as_move; exact OpR_move rfl is_rfl)
      | (apply as_assign; exact OpR_assign rfl is_rfl)
      | (apply as_add; exact OpR_addn rfl rfl (by omega) (by first | (simp only [Int.reduceAdd]; exact rfl) | exact rfl) is_rfl)
      | (apply as_binOp; exact OpR_ibin rfl rfl rfl is_rfl)
      | (apply as_indexAddr; exact OpR_indexAddr rfl rfl (by omega) (by omega) is_rfl)); first | (exact rfl; exact rfl) | exact rfl)
          | (apply J_seq)
          | (apply J_region)
          | (apply J_block)
          | (apply J_inBlock)
          | (apply J_skip)
          | (apply al_none (t := 9); refine JL_o (by apply as_alloc; exact OpR_alloc' hs) rfl rfl ?_; rintro _ _ ⟨b9, rfl, hb9, hs, hE⟩)
          | (apply al_none (t := 39); refine JL_o (by apply as_buildSlice; exact OpR_buildSlice hs rfl (by omega) rfl) rfl rfl ?_; rintro _ _ ⟨b39, rfl, hb39, hs, hE⟩)
          | (apply al_unit; refine JL_u (by apply as_store; exact OpR_store' hs rfl rfl rfl) rfl ?_; rintro _ _ ⟨hs, hF⟩)
          | (apply aj_cond; first | refine J_dec_t rfl ob ?_ | refine J_cond_t rfl gb ?_))
        refine ih (k + 1, zs ++ [y], a4, c4) _ _ ⟨by rw [List.length_append]; exact hs.sel [2, 3] (by decide), hlt, by show zs ++ [y] = _; rw [hfs]; (try rw [hzs]); try simp⟩ (by show n - (k + 1) < n - k; omega) (by rw [List.length_append]; repeat' (first | exact trivial | exact rfl | apply And.intro))
      · rw [if_neg hc, List.append_nil] at hfs
        have hc2 : aheadH x y = false := by simpa using hc
        repeat' (first
          | ((apply al_call 82; refine JL_o (by exact OpR_callF en82 rfl (ahead15_r _ x y)) rfl rfl ?_; rintro _ _ ⟨rfl, hE⟩; rw [hc2]; have hs := hs.ext hE; (try simp only [List.cons_append, List.nil_append] at hs)))
          | (apply JL_nil)
          | ((apply JL_pure); (first
      | (apply as_load; first | exact OpR_load' hs rfl rfl is_rfl | exact OpR_load_agg' hs rfl is_rfl | exact OpR_load_el (h.st hs) hx rfl rfl is_rfl)
      | (apply as_move; exact OpR_move rfl is_rfl)
      | (apply as_add; exact OpR_addn rfl rfl (by omega) (by first | (simp only [Int.reduceAdd]; exact rfl) | exact rfl) is_rfl)
      | (apply as_binOp; exact OpR_ibin rfl rfl rfl is_rfl)
      | (apply as_indexAddr; exact OpR_indexAddr rfl rfl (by omega) (by omega) is_rfl)); first | (exact rfl; exact rfl) | exact rfl)
          | (apply J_seq)
          | (apply J_region)
          | (apply J_block)
          | (apply J_inBlock)
          | (apply J_skip)
          | (apply al_none (t := 9); refine JL_o (by apply as_alloc; exact OpR_alloc' hs) rfl rfl ?_; rintro _ _ ⟨b9, rfl, hb9, hs, hE⟩)
          | (apply al_unit; refine JL_u (by apply as_store; exact OpR_store' hs rfl rfl rfl) rfl ?_; rintro _ _ ⟨hs, hF⟩)
          | (apply aj_cond; first | refine J_dec_t rfl ob ?_ | refine J_cond_f rfl gb ?_))
        refine ih (k + 1, zs, a', c') _ _ ⟨hs.sel [1, 2] (by decide), hlt, by show zs = _; rw [hfs, hzs]⟩ (by show n - (k + 1) < n - k; omega) (by repeat' (first | exact trivial | exact rfl | apply And.intro))
    · have hs : St w NoF w2 [_, _] := hs1
      rw [List.take_of_length_le (by omega)] at hzs
      repeat' (first
        | (apply JL_nil)
        | ((apply JL_pure); (first
      | (apply as_move; exact OpR_move rfl is_rfl)
      | (apply as_assign; exact OpR_assign rfl is_rfl)
      | (apply as_binOp; exact OpR_ibin rfl rfl rfl is_rfl)); first | (exact rfl; exact rfl) | exact rfl)
        | (apply J_seq)
        | (apply J_region)
        | (apply aj_exit; refine J_exit rfl ?_)
        | (apply aj_cond; refine J_dec_f rfl ob ?_))
      have hw : zs = withH l x := by rw [hzs]; unfold withH; rw [List.append_assoc]; rfl
      rw [← hw]
      refine J_leave Tryz.func19 rfl (.tmp rfl .nil) ⟨_, _, rfl, hs.out (.cons_cons _ (List.nil_sublist _))⟩
theorem put15_r (w : World) (a : Option Addr) (n c : Nat) (l : List Int) (x : Int) (h : Sl (tInt .i64) All w a n c l) (hn : n ≤ 4000000) :
    Ret Tryz.prog 160 #[.slice a n c, .int .i64 x] w fun v w' => ∃ a' c', v = .slice a' (putI l x).length c' ∧ Fresh w w' [RowI a' (putI l x).length c' (putI l x)] := by
  refine Ret_of (l := [_, _]) Tryz.func160 rfl Tryz.ntmps160 (by simp) ?_
  have hs := St.init w
  have hl := h.len
  repeat' (first
    | (apply JL_nil)
    | ((apply JL_pure); (first
      | (apply as_move; exact OpR_move rfl is_rfl)
      | (apply as_assign; exact OpR_assign rfl is_rfl)
      | (apply as_b_len; exact OpR_len rfl is_rfl)); first | (exact rfl; exact rfl) | exact rfl)
    | (apply J_seq)
    | (apply J_region)
    | (apply J_block))
  have hs := hs.nilRow 3 1
  refine J_loopK (α := Nat × List Int × Option Addr × Nat) [(0, _), (1, _), (10, _), (11, _)] (fun g => [(5, .slice g.2.2.1 g.2.1.length g.2.2.2), (12, .int .i64 g.1)]) (fun g w' => St w NoF w' [RowI g.2.2.1 g.2.1.length g.2.2.2 g.2.1] ∧ g.1 ≤ n ∧ g.2.1 = (l.take g.1).filter (fun y => decide (y < x))) (fun g => n - g.1) (0, [], none, 0) ⟨hs, Nat.zero_le _, rfl⟩ (by repeat' (first | exact trivial | exact rfl | apply And.intro)) ?_
  rintro ⟨k, zs, a', c'⟩ w2 ⟨hs1, hk, hzs⟩ ih
  dsimp only at hs1 hk hzs ih ⊢
  have hzl : zs.length ≤ 0 + k := by rw [hzs]; have := filter_le (l := l) (k := k) (fun y => decide (y < x)); omega
  by_cases hlt : k < n
  · obtain ⟨p, o, rfl⟩ := h.sl.addr (by omega)
    have hs : St w NoF w2 [_] := hs1
    have hx : l[k]? = some (l[k]'(by omega)) := List.getElem?_eq_getElem (by omega)
    obtain ⟨y, hyd⟩ : ∃ y, y = l[k]'(by omega) := ⟨_, rfl⟩
    rw [← hyd] at hx
    have hfs := filter_succ (fun y => decide (y < x)) hx
    by_cases hc : decide (y < x) = true
    · rw [if_pos hc] at hfs
      have hc3 : y < x := by simpa using hc
      repeat' (first
        | ((apply al_none (t := 22); refine JL_o (by apply as_b_append; exact OpR_append (xs := List.map (Value.int .i64) zs) (news := [.int .i64 y]) hs rfl rfl (src_blkI (hs.blk (b := b21))) plain_blk rfl (by omega) (by unfold maxLen; omega)) rfl rfl ?_; rintro _ _ ⟨a4, c4, rfl, hs, hF, hnil⟩; rw [show List.map (Value.int .i64) zs ++ [.int .i64 y] = List.map (Value.int .i64) (zs ++ [y]) from map_snoc zs y] at hs))
        | (apply JL_nil)
        | ((apply JL_pure); (first
      | (apply as_load; first | exact OpR_load' hs rfl rfl is_rfl | exact OpR_load_agg' hs rfl is_rfl | exact OpR_load_el1 (i := k) (j := 0) (h.st hs) hx rfl rfl rfl is_rfl)
      | (apply as_move; exact OpR_move rfl is_rfl)
      | (apply as_assign; exact OpR_assign rfl is_rfl)
      | (apply as_add; exact OpR_addn rfl rfl (by omega) (by first | (simp only [Int.reduceAdd]; exact rfl) | exact rfl) is_rfl)
      | (apply as_binOp; exact OpR_ibin rfl rfl rfl is_rfl)
      | (apply as_indexAddr; exact OpR_indexAddr rfl rfl (by omega) (by omega) is_rfl)); first | (exact rfl; exact rfl) | exact rfl)
        | (apply J_seq)
        | (apply J_region)
        | (apply J_block)
        | (apply J_inBlock)
        | (apply J_skip)
        | (apply al_none (t := 21); refine JL_o (by apply as_buildSlice; exact OpR_buildSlice hs rfl (by omega) rfl) rfl rfl ?_; rintro _ _ ⟨b21, rfl, hb21, hs, hE⟩)
        | (apply aj_cond; refine J_dec_t rfl ob ?_))
      refine ih (k + 1, zs ++ [y], a4, c4) _ _ ⟨by rw [List.length_append]; exact hs.sel [1] (by decide), hlt, by show zs ++ [y] = _; rw [hfs]; (try rw [hzs]); try simp⟩ (by show n - (k + 1) < n - k; omega) (by rw [List.length_append]; repeat' (first | exact trivial | exact rfl | apply And.intro))
    · rw [if_neg hc, List.append_nil] at hfs
      have hc3 : ¬ y < x := by simpa using hc
      repeat' (first
        | (apply JL_nil)
        | ((apply JL_pure); (first
      | (apply as_load; first | exact OpR_load' hs rfl rfl is_rfl | exact OpR_load_agg' hs rfl is_rfl | exact OpR_load_el1 (i := k) (j := 0) (h.st hs) hx rfl rfl rfl is_rfl)
      | (apply as_move; exact OpR_move rfl is_rfl)
      | (apply as_assign; exact OpR_assign rfl is_rfl)
      | (apply as_add; exact OpR_addn rfl rfl (by omega) (by first | (simp only [Int.reduceAdd]; exact rfl) | exact rfl) is_rfl)
      | (apply as_binOp; exact OpR_ibin rfl rfl rfl is_rfl)
      | (apply as_indexAddr; exact OpR_indexAddr rfl rfl (by omega) (by omega) is_rfl)); first | (exact rfl; exact rfl) | exact rfl)
        | (apply J_seq)
        | (apply J_region)
        | (apply J_block)
        | (apply J_inBlock)
        | (apply J_skip)
        | (apply aj_cond; first | refine J_dec_t rfl ob ?_ | refine J_dec_f rfl ob ?_))
      refine ih (k + 1, zs, a', c') _ _ ⟨hs.sel [0] (by decide), hlt, by show zs = _; rw [hfs, hzs]⟩ (by show n - (k + 1) < n - k; omega) (by repeat' (first | exact trivial | exact rfl | apply And.intro))
  · have hs : St w NoF w2 [_] := hs1
    rw [List.take_of_length_le (by omega)] at hzs
    repeat' (first
      | ((apply al_none (t := 27); refine JL_o (by apply as_b_append; exact OpR_append (xs := List.map (Value.int .i64) zs) (news := [.int .i64 x]) hs rfl rfl (src_blkI (hs.blk (b := b26))) plain_blk rfl (by omega) (by unfold maxLen; omega)) rfl rfl ?_; rintro _ _ ⟨a4, c4, rfl, hs, hF, hnil⟩; rw [show List.map (Value.int .i64) zs ++ [.int .i64 x] = List.map (Value.int .i64) (zs ++ [x]) from map_snoc zs x] at hs))
      | (apply JL_nil)
      | ((apply JL_pure); (first
      | (apply as_move; exact OpR_move rfl is_rfl)
      | (apply as_assign; exact OpR_assign rfl is_rfl)
      | (apply as_binOp; exact OpR_ibin rfl rfl rfl is_rfl)
      | (apply as_b_len; exact OpR_len rfl is_rfl)); first | (exact rfl; exact rfl) | exact rfl)
      | (apply J_seq)
      | (apply J_region)
      | (apply J_block)
      | (apply aj_exit; refine J_exit rfl ?_)
      | (apply al_none (t := 26); refine JL_o (by apply as_buildSlice; exact OpR_buildSlice hs rfl (by omega) rfl) rfl rfl ?_; rintro _ _ ⟨b26, rfl, hb26, hs, hE⟩)
      | (apply aj_cond; refine J_dec_f rfl ob ?_))
    refine J_loopK (α := Nat × List Int × Option Addr × Nat) [(1, _), (28, _), (29, _)] (fun g => [(5, .slice g.2.2.1 g.2.1.length g.2.2.2), (30, .int .i64 g.1)]) (fun g w' => St w NoF w' [RowI g.2.2.1 g.2.1.length g.2.2.2 g.2.1] ∧ g.1 ≤ n ∧ g.2.1 = (l.filter (fun y => decide (y < x)) ++ [x]) ++ (l.take g.1).filter (fun y => decide (y > x))) (fun g => n - g.1) (0, zs ++ [x], a4, c4) ⟨(by rw [List.length_append]; exact hs.sel [1] (by decide)), Nat.zero_le _, by show zs ++ [x] = _; rw [hzs, List.take_zero]; simp⟩ (by rw [List.length_append]; repeat' (first | exact trivial | exact rfl | apply And.intro)) ?_
    rintro ⟨k, zs, a', c'⟩ w2 ⟨hs1, hk, hzs⟩ ih
    dsimp only at hs1 hk hzs ih ⊢
    have hzl : zs.length ≤ n + 1 + k := by rw [hzs]; have h1 := List.length_filter_le (fun y => decide (y < x)) l; have h2 := filter_le (l := l) (k := k) (fun y => decide (y > x)); rw [List.length_append, List.length_append]; simp only [List.length_cons, List.length_nil]; omega
    by_cases hlt : k < n
    · obtain ⟨p, o, rfl⟩ := h.sl.addr (by omega)
      have hs : St w NoF w2 [_] := hs1
      have hx : l[k]? = some (l[k]'(by omega)) := List.getElem?_eq_getElem (by omega)
      obtain ⟨y, hyd⟩ : ∃ y, y = l[k]'(by omega) := ⟨_, rfl⟩
      rw [← hyd] at hx
      have hfs := filter_succ (fun y => decide (y > x)) hx
      by_cases hc : decide (y > x) = true
      · rw [if_pos hc] at hfs
        have hc3 : y > x := by simpa using hc
        repeat' (first
          | ((apply al_none (t := 40); refine JL_o (by apply as_b_append; exact OpR_append (xs := List.map (Value.int .i64) zs) (news := [.int .i64 y]) hs rfl rfl (src_blkI (hs.blk (b := b39))) plain_blk rfl (by omega) (by unfold maxLen; omega)) rfl rfl ?_; rintro _ _ ⟨a4, c4, rfl, hs, hF, hnil⟩; rw [show List.map (Value.int .i64) zs ++ [.int .i64 y] = List.map (Value.int .i64) (zs ++ [y]) from map_snoc zs y] at hs))
          | (apply JL_nil)
          | ((apply JL_pure); (first
      | (apply as_load; first | exact OpR_load' hs rfl rfl is_rfl | exact OpR_load_agg' hs rfl is_rfl | exact OpR_load_el1 (i := k) (j := 0) (h.st hs) hx rfl rfl rfl is_rfl)
      | (apply as_move; exact OpR_move rfl is_rfl)
      | (apply as_assign; exact OpR_assign rfl is_rfl)
      | (apply as_add; exact OpR_addn rfl rfl (by omega) (by first | (simp only [Int.reduceAdd]; exact rfl) | exact rfl) is_rfl)
      | (apply as_binOp; exact OpR_ibin rfl rfl rfl is_rfl)
      | (apply as_indexAddr; exact OpR_indexAddr rfl rfl (by omega) (by omega) is_rfl)); first | (exact rfl; exact rfl) | exact rfl)
          | (apply J_seq)
          | (apply J_region)
          | (apply J_block)
          | (apply J_inBlock)
          | (apply J_skip)
          | (apply al_none (t := 39); refine JL_o (by apply as_buildSlice; exact OpR_buildSlice hs rfl (by omega) rfl) rfl rfl ?_; rintro _ _ ⟨b39, rfl, hb39, hs, hE⟩)
          | (apply aj_cond; refine J_dec_t rfl ob ?_))
        refine ih (k + 1, zs ++ [y], a4, c4) _ _ ⟨by rw [List.length_append]; exact hs.sel [1] (by decide), hlt, by show zs ++ [y] = _; rw [hfs]; (try rw [hzs]); try simp⟩ (by show n - (k + 1) < n - k; omega) (by rw [List.length_append]; repeat' (first | exact trivial | exact rfl | apply And.intro))
      · rw [if_neg hc, List.append_nil] at hfs
        have hc3 : ¬ y > x := by simpa using hc
        repeat' (first
          | (apply JL_nil)
          | ((apply JL_pure); (first
      | (apply as_load; first | exact OpR_load' hs rfl rfl is_rfl | exact OpR_load_agg' hs rfl is_rfl | exact OpR_load_el1 (i := k) (j := 0) (h.st hs) hx rfl rfl rfl is_rfl)
      | (apply as_move; exact OpR_move rfl is_rfl)
      | (apply as_assign; exact OpR_assign rfl is_rfl)
      | (apply as_add; exact OpR_addn rfl rfl (by omega) (by first | (simp only [Int.reduceAdd]; exact rfl) | exact rfl) is_rfl)
      | (apply as_binOp; exact OpR_ibin rfl rfl rfl is_rfl)
      | (apply as_indexAddr; exact OpR_indexAddr rfl rfl (by omega) (by omega) is_rfl)); first | (exact rfl; exact rfl) | exact rfl)
          | (apply J_seq)
          | (apply J_region)
          | (apply J_block)
          | (apply J_inBlock)
          | (apply J_skip)
          | (apply aj_cond; first | refine J_dec_t rfl ob ?_ | refine J_dec_f rfl ob ?_))
        refine ih (k + 1, zs, a', c') _ _ ⟨hs.sel [0] (by decide), hlt, by show zs = _; rw [hfs, hzs]⟩ (by show n - (k + 1) < n - k; omega) (by repeat' (first | exact trivial | exact rfl | apply And.intro))
    · have hs : St w NoF w2 [_] := hs1
      rw [List.take_of_length_le (by omega)] at hzs
      repeat' (first
        | (apply JL_nil)
        | ((apply JL_pure); (first
      | (apply as_move; exact OpR_move rfl is_rfl)
      | (apply as_assign; exact OpR_assign rfl is_rfl)
      | (apply as_binOp; exact OpR_ibin rfl rfl rfl is_rfl)); first | (exact rfl; exact rfl) | exact rfl)
        | (apply J_seq)
        | (apply J_region)
        | (apply aj_exit; refine J_exit rfl ?_)
        | (apply aj_cond; refine J_dec_f rfl ob ?_))
      have hw : zs = putI l x := by rw [hzs]; unfold putI; rw [List.append_assoc]; rfl
      rw [← hw]
      refine J_leave Tryz.func160 rfl (.tmp rfl .nil) ⟨_, _, rfl, hs.out (.cons_cons _ (List.nil_sublist _))⟩
theorem under15_r (w : World) (a : Option Addr) (n c : Nat) (l : List HH) (x : Int) (h : Sl dHeld All w a n c l) (hn : n ≤ 4000000) :
    Ret Tryz.prog 85 #[.slice a n c, .int .i64 x] w fun v w' => ∃ a' c', v = .slice a' (underH l x).length c' ∧ Fresh w w' [RowH a' (underH l x).length c' (underH l x)] := by
  refine Ret_of (l := [_, _]) Tryz.func85 rfl Tryz.ntmps85 (by simp) ?_
  have hs := St.init w
  have hl := h.len
  repeat' (first
    | (apply JL_nil)
    | ((apply JL_pure); (first
      | (apply as_move; exact OpR_move rfl is_rfl)
      | (apply as_assign; exact OpR_assign rfl is_rfl)
      | (apply as_b_len; exact OpR_len rfl is_rfl)); first | (exact rfl; exact rfl) | exact rfl)
    | (apply J_seq)
    | (apply J_region)
    | (apply J_block))
  have hs := hs.nilRow 31 2
  refine J_loopK (α := Nat × List HH × Option Addr × Nat) [(1, _), (8, _), (9, _)] (fun g => [(5, .slice g.2.2.1 g.2.1.length g.2.2.2), (10, .int .i64 g.1)]) (fun g w' => St w NoF w' [RowH g.2.2.1 g.2.1.length g.2.2.2 g.2.1] ∧ g.1 ≤ n ∧ g.2.1 = (l.take g.1).filter (fun y => mentB y.2 x)) (fun g => n - g.1) (0, [], none, 0) ⟨hs, Nat.zero_le _, rfl⟩ (by repeat' (first | exact trivial | exact rfl | apply And.intro)) ?_
  rintro ⟨k, zs, a', c'⟩ w2 ⟨hs1, hk, hzs⟩ ih
  dsimp only at hs1 hk hzs ih ⊢
  have hzl : zs.length ≤ 0 + k := by rw [hzs]; have := filter_le (l := l) (k := k) (fun y => mentB y.2 x); omega
  by_cases hlt : k < n
  · obtain ⟨p, o, rfl⟩ := h.sl.addr (by omega)
    have hs : St w NoF w2 [_] := hs1
    have hx : l[k]? = some (l[k]'(by omega)) := List.getElem?_eq_getElem (by omega)
    obtain ⟨y, hyd⟩ : ∃ y, y = l[k]'(by omega) := ⟨_, rfl⟩
    rw [← hyd] at hx
    have hfs := filter_succ (fun y => mentB y.2 x) hx
    have hyo := sl_okH h y (List.mem_of_getElem? hx)
    by_cases hc : mentB y.2 x = true
    · rw [if_pos hc] at hfs
      repeat' (first
        | ((apply al_call 161; refine JL_o (by exact OpR_callF en161 rfl (ments_r _ y.2 x hyo.2)) rfl rfl ?_; rintro _ _ ⟨rfl, hE⟩; rw [hc]; have hs := hs.ext hE; (try simp only [List.cons_append, List.nil_append] at hs)))
        | ((apply al_none (t := 21); refine JL_o (by apply as_b_append; exact OpR_append (xs := encL cH zs) (news := cH y) hs rfl rfl (src_blk2 (hs.blk (b := b20))) plain_blk rfl (by omega) (by unfold maxLen; omega)) rfl rfl ?_; rintro _ _ ⟨a4, c4, rfl, hs, hF, hnil⟩; rw [show encL cH zs ++ cH y = encL cH (zs ++ [y]) from encH_snoc zs y] at hs))
        | (apply JL_nil)
        | ((apply JL_pure); (first
      | (apply as_load; first | exact OpR_load' hs rfl rfl is_rfl | exact OpR_load_agg' hs rfl is_rfl | exact OpR_load_el (h.st hs) hx rfl rfl is_rfl)
      | (apply as_move; exact OpR_move rfl is_rfl)
      | (apply as_assign; exact OpR_assign rfl is_rfl)
      | (apply as_fieldAddr; exact OpR_fieldAddr0 rfl rfl is_rfl)
      | (apply as_add; exact OpR_addn rfl rfl (by omega) (by first | (simp only [Int.reduceAdd]; exact rfl) | exact rfl) is_rfl)
      | (apply as_binOp; exact OpR_ibin rfl rfl rfl is_rfl)
      | (apply as_indexAddr; exact OpR_indexAddr rfl rfl (by omega) (by omega) is_rfl)); first | (exact rfl; exact rfl) | exact rfl)
        | (apply J_seq)
        | (apply J_region)
        | (apply J_block)
        | (apply J_inBlock)
        | (apply J_skip)
        | (apply al_none (t := 7); refine JL_o (by apply as_alloc; exact OpR_alloc' hs) rfl rfl ?_; rintro _ _ ⟨b7, rfl, hb7, hs, hE⟩)
        | (apply al_none (t := 20); refine JL_o (by apply as_buildSlice; exact OpR_buildSlice hs rfl (by omega) rfl) rfl rfl ?_; rintro _ _ ⟨b20, rfl, hb20, hs, hE⟩)
        | (apply al_unit; refine JL_u (by apply as_store; exact OpR_store' hs rfl rfl rfl) rfl ?_; rintro _ _ ⟨hs, hF⟩)
        | (apply aj_cond; first | refine J_dec_t rfl ob ?_ | refine J_cond_t rfl gb ?_))
      refine ih (k + 1, zs ++ [y], a4, c4) _ _ ⟨by rw [List.length_append]; exact hs.sel [2] (by decide), hlt, by show zs ++ [y] = _; rw [hfs]; (try rw [hzs]); try simp⟩ (by show n - (k + 1) < n - k; omega) (by rw [List.length_append]; repeat' (first | exact trivial | exact rfl | apply And.intro))
    · rw [if_neg hc, List.append_nil] at hfs
      have hc2 : mentB y.2 x = false := by simpa using hc
      repeat' (first
        | ((apply al_call 161; refine JL_o (by exact OpR_callF en161 rfl (ments_r _ y.2 x hyo.2)) rfl rfl ?_; rintro _ _ ⟨rfl, hE⟩; rw [hc2]; have hs := hs.ext hE; (try simp only [List.cons_append, List.nil_append] at hs)))
        | (apply JL_nil)
        | ((apply JL_pure); (first
      | (apply as_load; first | exact OpR_load' hs rfl rfl is_rfl | exact OpR_load_agg' hs rfl is_rfl | exact OpR_load_el (h.st hs) hx rfl rfl is_rfl)
      | (apply as_move; exact OpR_move rfl is_rfl)
      | (apply as_fieldAddr; exact OpR_fieldAddr0 rfl rfl is_rfl)
      | (apply as_add; exact OpR_addn rfl rfl (by omega) (by first | (simp only [Int.reduceAdd]; exact rfl) | exact rfl) is_rfl)
      | (apply as_binOp; exact OpR_ibin rfl rfl rfl is_rfl)
      | (apply as_indexAddr; exact OpR_indexAddr rfl rfl (by omega) (by omega) is_rfl)); first | (exact rfl; exact rfl) | exact rfl)
        | (apply J_seq)
        | (apply J_region)
        | (apply J_block)
        | (apply J_inBlock)
        | (apply J_skip)
        | (apply al_none (t := 7); refine JL_o (by apply as_alloc; exact OpR_alloc' hs) rfl rfl ?_; rintro _ _ ⟨b7, rfl, hb7, hs, hE⟩)
        | (apply al_unit; refine JL_u (by apply as_store; exact OpR_store' hs rfl rfl rfl) rfl ?_; rintro _ _ ⟨hs, hF⟩)
        | (apply aj_cond; first | refine J_dec_t rfl ob ?_ | refine J_cond_f rfl gb ?_))
      refine ih (k + 1, zs, a', c') _ _ ⟨hs.sel [1] (by decide), hlt, by show zs = _; rw [hfs, hzs]⟩ (by show n - (k + 1) < n - k; omega) (by repeat' (first | exact trivial | exact rfl | apply And.intro))
  · have hs : St w NoF w2 [_] := hs1
    rw [List.take_of_length_le (by omega)] at hzs
    repeat' (first
      | (apply JL_nil)
      | ((apply JL_pure); (first
      | (apply as_move; exact OpR_move rfl is_rfl)
      | (apply as_assign; exact OpR_assign rfl is_rfl)
      | (apply as_binOp; exact OpR_ibin rfl rfl rfl is_rfl)); first | (exact rfl; exact rfl) | exact rfl)
      | (apply J_seq)
      | (apply J_region)
      | (apply aj_exit; refine J_exit rfl ?_)
      | (apply aj_cond; refine J_dec_f rfl ob ?_))
    have hw : zs = underH l x := hzs
    rw [← hw]
    refine J_leave Tryz.func85 rfl (.tmp rfl .nil) ⟨_, _, rfl, hs.out (.cons_cons _ (List.nil_sublist _))⟩
theorem same15_r (w : World) (a1 a2 : Option Addr) (n1 c1 n2 c2 : Nat) (xs ys : List HH) (h1 : Sl dHeld All w a1 n1 c1 xs) (h2 : Sl dHeld All w a2 n2 c2 ys) :
    Ret Tryz.prog 83 #[.slice a1 n1 c1, .slice a2 n2 c2] w fun v w' => v = .bool (decide (xs = ys)) ∧ Ext w w' := by
  refine Ret_of (l := [_, _]) Tryz.func83 rfl Tryz.ntmps83 (by simp) ?_
  have hs := St.init w
  have hl1 := h1.len
  have hl2 := h2.len
  have hmx : n1 ≤ 9223372036854775807 := by have h3 := h1.le; have h4 := h1.cap; unfold maxLen at h4; omega
  by_cases hn : n1 = n2
  · subst hn
    repeat' (first
      | (apply JL_nil)
      | ((apply JL_pure); (first
      | (apply as_move; exact OpR_move rfl is_rfl)
      | (apply as_assign; exact OpR_assign rfl is_rfl)
      | (apply as_binOp; exact OpR_ibin rfl rfl rfl is_rfl)
      | (apply as_b_len; exact OpR_len rfl is_rfl)); first | (exact rfl; exact rfl) | exact rfl)
      | (apply J_seq)
      | (apply J_region)
      | (apply J_block)
      | (apply J_skip)
      | (apply aj_cond; refine J_dec_f rfl ob ?_))
    refine J_loopK (α := Nat) [(0, _), (1, _), (12, _)] (fun k => [(13, .int .i64 k)]) (fun k w' => St w NoF w' [] ∧ k ≤ n1 ∧ xs.take k = ys.take k) (fun k => n1 - k) 0 ⟨hs, Nat.zero_le _, rfl⟩ (by repeat' (first | exact trivial | exact rfl | apply And.intro)) ?_
    rintro k w2 ⟨hs1, hk, heq⟩ ih
    have hs : St w NoF w2 [] := hs1
    by_cases hlt : k < n1
    · obtain ⟨p, o, rfl⟩ := h1.sl.addr (by omega)
      obtain ⟨p2, o2, rfl⟩ := h2.sl.addr (by omega)
      have hs : St w NoF w2 [] := hs1
      have hx : xs[k]? = some (xs[k]'(by omega)) := List.getElem?_eq_getElem (by omega)
      have hy : ys[k]? = some (ys[k]'(by omega)) := List.getElem?_eq_getElem (by omega)
      obtain ⟨x, hxd⟩ : ∃ x, x = xs[k]'(by omega) := ⟨_, rfl⟩
      obtain ⟨y, hyd⟩ : ∃ y, y = ys[k]'(by omega) := ⟨_, rfl⟩
      rw [← hxd] at hx
      rw [← hyd] at hy
      by_cases hc : x = y
      · have hc2 : decide (¬ (x.1 = y.1 ∧ x.2 = y.2)) = false := by simp [hc]
        repeat' (first
          | (apply JL_nil)
          | ((first | (apply JL_pure) | (apply JX_f; exact rfl; intro W X hs)); (first
      | (apply as_load; first | exact OpR_load_el (b := p) (o := o) (h1.st hs) hx rfl rfl is_rfl | exact OpR_load_el (b := p2) (o := o2) (h2.st hs) hy rfl rfl is_rfl)
      | (apply as_move; exact OpR_move rfl is_rfl)
      | (apply as_assign; exact OpR_assign rfl is_rfl)
      | (apply as_add; exact OpR_addn rfl rfl (by omega) (by first | (simp only [Int.reduceAdd]; exact rfl) | exact rfl) is_rfl)
      | (apply as_binOp; first | exact OpR_neT rfl rfl is_rfl | exact OpR_ibin rfl rfl rfl is_rfl)
      | (apply as_indexAddr; exact OpR_indexAddr rfl rfl (by omega) (by omega) is_rfl)); first | (exact rfl; exact rfl) | exact rfl)
          | (apply J_seq)
          | (apply J_region)
          | (apply J_block)
          | (apply J_inBlock)
          | (apply J_skip)
          | (apply aj_cond; first | refine J_dec_t rfl ob ?_ | refine J_cond_f rfl gb ?_)
          | (apply aj_draw; (refine J_drawX (id := 6) [0, 0, 3, 7, 0, 0, 48, 112, 255] [(0, 0), (1, 0), (2, 0), (3, 0), (4, 0), (5, 0), (6, 0), (7, 0), (8, 0)] [] hs mixed (by kernel_rfl) (by kernel_rfl) (by kernel_rfl) (by kernel_rfl) (by kernel_rfl) ?_))
          | (refine JX_done (fun W hs => ?_))
          | (apply JD_done))
        refine ih (k + 1) _ _ ⟨hs, hlt, take_eq_succ hx (by rw [hc]; exact hy) heq⟩ (by omega) (by repeat' (first | exact trivial | exact rfl | apply And.intro))
      · have hc2 : decide (¬ (x.1 = y.1 ∧ x.2 = y.2)) = true := decide_eq_true (fun e => hc (hh_eq.1 e))
        repeat' (first
          | (apply JL_nil)
          | ((first | (apply JL_pure) | (apply JX_f; exact rfl; intro W X hs)); (first
      | (apply as_load; first | exact OpR_load_el (b := p) (o := o) (h1.st hs) hx rfl rfl is_rfl | exact OpR_load_el (b := p2) (o := o2) (h2.st hs) hy rfl rfl is_rfl)
      | (apply as_move; exact OpR_move rfl is_rfl)
      | (apply as_assign; exact OpR_assign rfl is_rfl)
      | (apply as_binOp; first | exact OpR_neT rfl rfl is_rfl | exact OpR_ibin rfl rfl rfl is_rfl)
      | (apply as_indexAddr; exact OpR_indexAddr rfl rfl (by omega) (by omega) is_rfl)); first | (exact rfl; exact rfl) | exact rfl)
          | (apply J_seq)
          | (apply J_region)
          | (apply J_block)
          | (apply J_skip)
          | (apply aj_cond; first | refine J_dec_t rfl ob ?_ | refine J_cond_t rfl gb ?_)
          | (apply aj_draw; (refine J_drawX (id := 6) [0, 0, 3, 7, 0, 0, 48, 112, 255] [(0, 0), (1, 0), (2, 0), (3, 0), (4, 0), (5, 0), (6, 0), (7, 0), (8, 0)] [] hs mixed (by kernel_rfl) (by kernel_rfl) (by kernel_rfl) (by kernel_rfl) (by kernel_rfl) ?_))
          | (refine JX_done (fun W hs => ?_))
          | (apply JD_done))
        refine J_leave Tryz.func83 rfl (.tmp rfl .nil) ⟨congrArg Value.bool (decide_eq_false fun e => hc (by subst e; rw [hx] at hy; exact Option.some.inj hy)).symm, hs.frm.ext⟩
    · rw [List.take_of_length_le (by omega), List.take_of_length_le (by omega)] at heq
      repeat' (first
        | (apply JL_nil)
        | ((apply JL_pure); (first
      | (apply as_assign; exact OpR_assign rfl is_rfl)
      | (apply as_binOp; exact OpR_ibin rfl rfl rfl is_rfl)); first | (exact rfl; exact rfl) | exact rfl)
        | (apply J_seq)
        | (apply J_region)
        | (apply aj_exit; refine J_exit rfl ?_)
        | (apply aj_cond; refine J_dec_f rfl ob ?_))
      refine J_leave Tryz.func83 rfl (.tmp rfl .nil) ⟨congrArg Value.bool (decide_eq_true heq).symm, hs.frm.ext⟩
  · repeat' (first
      | (apply JL_nil)
      | ((apply JL_pure); (first
      | (apply as_move; exact OpR_move rfl is_rfl)
      | (apply as_assign; exact OpR_assign rfl is_rfl)
      | (apply as_binOp; exact OpR_ibin rfl rfl rfl is_rfl)
      | (apply as_b_len; exact OpR_len rfl is_rfl)); first | (exact rfl; exact rfl) | exact rfl)
      | (apply J_seq)
      | (apply J_region)
      | (apply aj_cond; refine J_dec_t rfl ob ?_))
    refine J_leave Tryz.func83 rfl (.tmp rfl .nil) ⟨congrArg Value.bool (decide_eq_false fun e => hn (by rw [← hl1, ← hl2, e])).symm, hs.frm.ext⟩
end Go.Eng
/- Referrers: the reference's referrers. -/
namespace Go.Eng
open Go.Proofs
set_option linter.unusedSimpArgs false
set_option linter.unusedVariables false
abbrev dRef : Ty RH := tPair (tInt .i64) (tSl dHeld)
abbrev RRef := Int × RS
abbrev dRRef : Ty RRef := tPair (tInt .i64) tS
abbrev mRef : Rel RRef RH := relPair (relEq Int) (relSl dHeld)
abbrev cRef (p : RRef) : List Value := [.int .i64 p.1, .slice p.2.1 p.2.2.1 p.2.2.2]
theorem flatRef : FlatTy dRRef cRef (fun p => inK .i64 p.1 ∧ True) :=
  (inferInstance : FlatTy (tPair (tInt .i64) tS) (fun p => [.int .i64 p.1] ++ [.slice p.2.1 p.2.2.1 p.2.2.2]) (fun p => inK .i64 p.1 ∧ True))
instance (priority := high) : FlatTy dRRef cRef (fun p => inK .i64 p.1 ∧ True) := flatRef
theorem rawRef : RawTy dRef dRRef mRef := inferInstance
abbrev TabQ (a : Option Addr) (n c : Nat) (rs : List RRef) : HP := Row a n c 116 2 (encL cRef rs)
/-- A referred of one's own: its index, where its row lies, and what that tells. -/
abbrev QR := Int × RS × List HH
abbrev rawQ (q : QR) : RRef := (q.1, q.2.1)
abbrev meanQ (q : QR) : RH := (q.1, q.2.2)
abbrev rowQ (q : QR) : HP := RowH q.2.1.1 q.2.1.2.1 q.2.1.2.2 q.2.2
def OwnQ (qs : List QR) : HP := Star (qs.map rowQ)
def okQ (q : QR) : Prop := inK .i64 q.1 ∧ q.2.1.2.1 = q.2.2.length ∧ ∀ x ∈ q.2.2, okH x
section
variable {w0 w : World} {F : Nat → Prop} {L : List HP}
theorem St.nilQ (h : St w0 F w L) : St w0 F w (OwnQ [] :: L) := St.star (A := []) h
theorem St.pushQ {qs : List QR} {q : QR} (h : St w0 F w (rowQ q :: OwnQ qs :: L)) : St w0 F w (OwnQ (qs ++ [q]) :: L) := by
  have h1 : St w0 F w (OwnQ qs :: rowQ q :: L) := h.perm (.swap _ _ _)
  have h2 : St w0 F w (qs.map rowQ ++ (rowQ q :: L)) := St.unstar h1
  have h3 : St w0 F w ((qs ++ [q]).map rowQ ++ L) := by rw [List.map_append, List.append_assoc]; exact h2
  exact St.star h3
theorem St.outQ {q1 q2 : List QR} {q : QR} (h : St w0 F w (OwnQ (q1 ++ q :: q2) :: L)) : St w0 F w (rowQ q :: OwnQ (q1 ++ q2) :: L) := by
  have h2 : St w0 F w ((q1 ++ q :: q2).map rowQ ++ L) := St.unstar h
  have h3 : ((q1 ++ q :: q2).map rowQ ++ L).Perm ((q1 ++ q2).map rowQ ++ (rowQ q :: L)) := by
    rw [List.map_append, List.map_append, List.map_cons]
    refine (List.Perm.append_right L (List.perm_middle)).trans ?_
    rw [List.cons_append]
    exact List.perm_middle.symm
  have h4 : St w0 F w (OwnQ (q1 ++ q2) :: rowQ q :: L) := St.star (h2.perm h3)
  exact h4.perm (.swap _ _ _)
theorem St.inQ {q1 q2 : List QR} {q : QR} (h : St w0 F w (rowQ q :: OwnQ (q1 ++ q2) :: L)) : St w0 F w (OwnQ (q1 ++ q :: q2) :: L) := by
  have h1 : St w0 F w (OwnQ (q1 ++ q2) :: rowQ q :: L) := h.perm (.swap _ _ _)
  have h2 : St w0 F w ((q1 ++ q2).map rowQ ++ (rowQ q :: L)) := St.unstar h1
  refine St.star (A := (q1 ++ q :: q2).map rowQ) (h2.perm ?_)
  rw [List.map_append, List.map_append, List.map_cons]
  refine (List.perm_middle (l₁ := q1.map rowQ ++ q2.map rowQ) (l₂ := L) (a := rowQ q)).trans ?_
  rw [← List.cons_append]
  exact (List.Perm.append_right L (List.perm_middle)).symm
theorem ownQ_row {qs : List QR} (h : (OwnQ qs).holds w) {q : QR} (hq : q ∈ qs) : RowV w q.2.1.1 q.2.1.2.1 q.2.1.2.2 31 2 (encL cH q.2.2) := h.1 _ (List.mem_map_of_mem hq)
theorem okQ_raw {qs : List QR} (h : ∀ q ∈ qs, okQ q) : ∀ r ∈ qs.map rawQ, inK .i64 r.1 ∧ True := fun r hr => by
  obtain ⟨q, hq, rfl⟩ := List.mem_map.1 hr
  exact ⟨(h q hq).1, trivial⟩
theorem meanQ_of {qs : List QR} (h : (OwnQ qs).holds w) (hok : ∀ q ∈ qs, okQ q) : MeanV mRef All w (qs.map rawQ) (qs.map meanQ) := by
  refine ⟨by simp, fun i r x hr hx => ?_⟩
  rw [List.getElem?_map] at hr hx
  cases hq : qs[i]? with
  | none => rw [hq] at hr; cases hr
  | some q =>
    rw [hq] at hr hx
    cases hr; cases hx
    have hm := List.mem_of_getElem? hq
    obtain ⟨_, h2, h3⟩ := hok q hm
    exact ⟨rfl, (RowV.slF (d := dHeld) (ownQ_row h hm) (by decide) h3).weak (fun _ _ => trivial)⟩
/-- Referrers of one's own, as they are read. -/
theorem slQ {a : Option Addr} {n c : Nat} {qs : List QR} (hs : St w0 F w L) (h1 : TabQ a n c (qs.map rawQ) ∈ L) (h2 : OwnQ qs ∈ L) (hok : ∀ q ∈ qs, okQ q) : Sl dRef All w a n c (qs.map meanQ) :=
  Sl.unraw (D := rawRef) ((RowV.slF (d := dRRef) (hs.all _ h1) (by decide) (okQ_raw hok)).weak (fun _ _ => trivial)) (meanQ_of (hs.all _ h2) hok)
end
theorem sl_okR {w : World} {a : Option Addr} {n c : Nat} {l : List RH} (h : Sl dRef All w a n c l) : ∀ r ∈ l, inK .i64 r.1 ∧ ∀ x ∈ r.2, okH x := fun r hr => by
  obtain ⟨rs, h1, hm⟩ := Sl.raw (D := rawRef) h
  obtain ⟨_, _, hok⟩ := h1.srcF
  obtain ⟨i, hi⟩ := List.mem_iff_getElem?.1 hr
  obtain ⟨q, hq, e1, e2⟩ := hm.get hi
  have e1 : q.1 = r.1 := e1
  exact ⟨by rw [← e1]; exact (hok q (List.mem_of_getElem? hq)).1, sl_okH (show Sl dHeld All w q.2.1 q.2.2.1 q.2.2.2 r.2 from e2)⟩
theorem encR_snoc (xs : List RRef) (x : RRef) : encL cRef xs ++ cRef x = encL cRef (xs ++ [x]) := by rw [encL_app]; simp [encL]
theorem src_blkR {w : World} {b e : Nat} {r : RRef} {fz : Nat × Nat} (h : w.heap[b]? = some (.cells #[.int .i64 r.1, .slice r.2.1 r.2.2.1 r.2.2.2] e fz)) : Src w (some ⟨b, 0, none⟩) 1 2 (cRef r) := by
  refine ⟨rfl, fun h => (nomatch h), fun u hu => ?_, fun b' o hb j u hj => ?_⟩
  · simp only [List.mem_cons, List.not_mem_nil, or_false] at hu
    rcases hu with rfl | rfl <;> rfl
  · cases hb
    exact cell_blk h (by rw [Nat.zero_add]; exact hj)
theorem putI_len (l : List Int) (n : Int) : (putI l n).length ≤ l.length + 1 := by
  unfold putI
  have key : ∀ l : List Int, (l.filter fun x => decide (x < n)).length + (l.filter fun x => decide (x > n)).length ≤ l.length := by
    intro l
    induction l with
    | nil => simp
    | cons y l ih =>
      rw [List.filter_cons, List.filter_cons]
      by_cases h1 : y < n
      · rw [if_pos (by simpa using h1), if_neg (by simp; omega)]; simp only [List.length_cons]; omega
      · rw [if_neg (by simpa using h1)]
        split <;> simp only [List.length_cons] <;> omega
  rw [List.length_append, List.length_cons]
  have := key l
  omega
def idxK (l : List HH) (k : Nat) : List Int := idxH (l.take k)
theorem idxK_succ {l : List HH} {k : Nat} {x : HH} (hx : l[k]? = some x) : idxH (l.take (k + 1)) = putI (putI (idxH (l.take k)) (partsM x.2).1) (partsM x.2).2 := by
  unfold idxH
  rw [List.take_add_one, hx, List.foldl_append]; rfl
theorem idxH_len (l : List HH) : (idxH l).length ≤ 2 * l.length := by
  have key : ∀ (xs : List HH) (l : List Int), (xs.foldl (fun o h => putI (putI o (partsM h.2).1) (partsM h.2).2) l).length ≤ l.length + 2 * xs.length := by
    intro xs
    induction xs with
    | nil => intro l; simp
    | cons y xs ih =>
      intro l
      rw [List.foldl_cons]
      have h1 := ih (putI (putI l (partsM y.2).1) (partsM y.2).2)
      have h2 := putI_len (putI l (partsM y.2).1) (partsM y.2).2
      have h3 := putI_len l (partsM y.2).1
      rw [List.length_cons]
      omega
  have := key l []
  simpa [idxH] using this
theorem idxH_ok (l : List HH) : ∀ n ∈ idxH l, inK .i64 n := fun n hn => by
  obtain ⟨h, _, hm⟩ := idxH_mem.1 hn
  have := partsM_lt h.2
  unfold inK
  rcases ment_iff.1 hm with e | e <;> omega
theorem foldW_len : ∀ (xs l : List HH), (xs.foldl withH l).length ≤ l.length + xs.length
  | [], l => by simp
  | y :: xs, l => by
    have h1 := foldW_len xs (withH l y)
    have h2 := withH_len' l y
    rw [List.foldl_cons, List.length_cons]
    omega
theorem flat_split {l : List RH} {k : Nat} {x : RH} (hx : l[k]? = some x) : l.flatMap (·.2) = (l.take k).flatMap (·.2) ++ (x.2 ++ (l.drop (k + 1)).flatMap (·.2)) := by
  have hk := (List.getElem?_eq_some_iff.1 hx).1
  have e : l = l.take k ++ x :: l.drop (k + 1) := by
    have h1 : x = l[k]'hk := (List.getElem?_eq_some_iff.1 hx).2.symm
    rw [h1, ← List.drop_eq_getElem_cons hk, List.take_append_drop]
  conv => lhs; rw [e]
  rw [List.flatMap_append, List.flatMap_cons]
theorem flat_succ {l : List RH} {k : Nat} {x : RH} (hx : l[k]? = some x) : (l.take (k + 1)).flatMap (·.2) = (l.take k).flatMap (·.2) ++ x.2 := by
  rw [List.take_add_one, hx, List.flatMap_append]; simp
theorem foldW_ok {xs l : List HH} (h1 : ∀ x ∈ xs, okH x) (h2 : ∀ x ∈ l, okH x) (hl : sortedH l) : ∀ x ∈ xs.foldl withH l, okH x := fun x hx => by
  rcases ((foldH xs l hl).2 x).1 hx with h | h
  · exact h1 x h
  · exact h2 x h
attribute [local irreducible] Hold J JL JD JX JXat OpR OpG Ret RetV Is Blk Row MapC
set_option maxRecDepth 100000
set_option maxHeartbeats 1000000
theorem idx15_r (w : World) (a : Option Addr) (n c : Nat) (l : List HH) (h : Sl dHeld All w a n c l) (hn : n ≤ 1000000) :
    Ret Tryz.prog 84 #[.slice a n c] w fun v w' => ∃ a' c', v = .slice a' (idxH l).length c' ∧ Fresh w w' [RowI a' (idxH l).length c' (idxH l)] := by
  refine Ret_of (l := [_]) Tryz.func84 rfl Tryz.ntmps84 (by simp) ?_
  have hs := St.init w
  have hl := h.len
  repeat' (first
    | (apply JL_nil)
    | ((apply JL_pure); (first
      | (apply as_move; exact OpR_move rfl is_rfl)
      | (apply as_assign; exact OpR_assign rfl is_rfl)
      | (apply as_b_len; exact OpR_len rfl is_rfl)); first | (exact rfl; exact rfl) | exact rfl)
    | (apply J_seq)
    | (apply J_region)
    | (apply J_block))
  have hs := hs.nilRow 3 1
  refine J_loopK (α := Nat × List Int × Option Addr × Nat) [(8, _), (9, _)] (fun g => [(3, .slice g.2.2.1 g.2.1.length g.2.2.2), (10, .int .i64 g.1)]) (fun g w' => St w NoF w' [RowI g.2.2.1 g.2.1.length g.2.2.2 g.2.1] ∧ g.1 ≤ n ∧ g.2.1 = idxH (l.take g.1)) (fun g => n - g.1) (0, [], none, 0) ⟨hs, Nat.zero_le _, rfl⟩ (by repeat' (first | exact trivial | exact rfl | apply And.intro)) ?_
  rintro ⟨k, zs, a', c'⟩ w2 ⟨hs1, hk, hzs⟩ ih
  dsimp only at hs1 hk hzs ih ⊢
  by_cases hlt : k < n
  · obtain ⟨p, o, rfl⟩ := h.sl.addr (by omega)
    have hs : St w NoF w2 [_] := hs1
    have hx : l[k]? = some (l[k]'(by omega)) := List.getElem?_eq_getElem (by omega)
    obtain ⟨y, hyd⟩ : ∃ y, y = l[k]'(by omega) := ⟨_, rfl⟩
    rw [← hyd] at hx
    have hyo := sl_okH h y (List.mem_of_getElem? hx)
    have hfs := idxK_succ hx
    have hzl : zs.length ≤ 2 * k := by rw [hzs]; refine Nat.le_trans (idxH_len _) ?_; rw [List.length_take]; omega
    have hz1 : ∀ x ∈ zs, inK .i64 x := by rw [hzs]; exact idxH_ok _
    have hpl := partsM_lt y.2
    have hz2 : ∀ x ∈ putI zs (partsM y.2).1, inK .i64 x := fun x hx => by
      rcases putI_mem.1 hx with e | e
      · rw [e]; unfold inK; omega
      · exact hz1 x e
    have hz2l := putI_len zs (partsM y.2).1
    repeat' (first
      | ((apply al_call 159; refine JL_o (by exact OpR_callF en159 rfl (partsR_r _ y.2 hyo.2)) rfl rfl ?_; rintro _ _ ⟨rfl, hE⟩; have hs := hs.ext hE; (try simp only [List.cons_append, List.nil_append] at hs)))
      | ((apply al_none (t := 22); refine JL_o (OpR_callF en160 rfl (put15_r _ a' zs.length c' zs (partsM y.2).1 (slI hs (by repeat (first | exact List.Mem.head _ | apply List.Mem.tail)) hz1) (by omega))) rfl rfl ?_; rintro _ _ ⟨a4, c4, rfl, hf⟩; have hs := hs.fresh hf; simp only [List.cons_append, List.nil_append] at hs))
      | ((apply al_none (t := 24); refine JL_o (OpR_callF en160 rfl (put15_r _ a4 _ c4 (putI zs (partsM y.2).1) (partsM y.2).2 (slI hs (by repeat (first | exact List.Mem.head _ | apply List.Mem.tail)) hz2) (by omega))) rfl rfl ?_; rintro _ _ ⟨a5, c5, rfl, hf⟩; have hs := hs.fresh hf; simp only [List.cons_append, List.nil_append] at hs))
      | (apply JL_nil)
      | ((apply JL_pure); (first
      | (apply as_load; first | exact OpR_load' hs rfl rfl is_rfl | exact OpR_load_agg' hs rfl is_rfl | exact OpR_load_el (h.st hs) hx rfl rfl is_rfl)
      | (apply as_move; exact OpR_move rfl is_rfl)
      | (apply as_assign; exact OpR_assign rfl is_rfl)
      | (apply as_fieldAddr; exact OpR_fieldAddr0 rfl rfl is_rfl)
      | (apply as_add; exact OpR_addn rfl rfl (by omega) (by first | (simp only [Int.reduceAdd]; exact rfl) | exact rfl) is_rfl)
      | (apply as_binOp; exact OpR_ibin rfl rfl rfl is_rfl)
      | (apply as_extract; exact OpR_extract rfl rfl is_rfl)
      | (apply as_indexAddr; exact OpR_indexAddr rfl rfl (by omega) (by omega) is_rfl)); first | (exact rfl; exact rfl) | exact rfl)
      | (apply J_seq)
      | (apply J_region)
      | (apply J_block)
      | (apply J_inBlock)
      | (apply J_skip)
      | (apply al_none (t := 5); refine JL_o (by apply as_alloc; exact OpR_alloc' hs) rfl rfl ?_; rintro _ _ ⟨b5, rfl, hb5, hs, hE⟩)
      | (apply al_unit; refine JL_u (by apply as_store; exact OpR_store' hs rfl rfl rfl) rfl ?_; rintro _ _ ⟨hs, hF⟩)
      | (apply aj_cond; refine J_dec_t rfl ob ?_))
    refine ih (k + 1, putI (putI zs (partsM y.2).1) (partsM y.2).2, a5, c5) _ _ ⟨hs.sel [0] (by decide), hlt, by show _ = _; rw [hfs, hzs]⟩ (by show n - (k + 1) < n - k; omega) (by repeat' (first | exact trivial | exact rfl | apply And.intro))
  · have hs : St w NoF w2 [_] := hs1
    rw [List.take_of_length_le (by omega)] at hzs
    repeat' (first
      | (apply JL_nil)
      | ((apply JL_pure); (first
      | (apply as_move; exact OpR_move rfl is_rfl)
      | (apply as_assign; exact OpR_assign rfl is_rfl)
      | (apply as_binOp; exact OpR_ibin rfl rfl rfl is_rfl)); first | (exact rfl; exact rfl) | exact rfl)
      | (apply J_seq)
      | (apply J_region)
      | (apply aj_exit; refine J_exit rfl ?_)
      | (apply aj_cond; refine J_dec_f rfl ob ?_))
    rw [← hzs]
    refine J_leave Tryz.func84 rfl (.tmp rfl .nil) ⟨_, _, rfl, hs.out (List.Sublist.refl _)⟩
theorem of15_r (w : World) (a : Option Addr) (n c : Nat) (l : List HH) (h : Sl dHeld All w a n c l) (hn : n ≤ 1000000) :
    Ret Tryz.prog 22 #[.slice a n c] w fun v w' => ∃ (qs : List QR) (a' : Option Addr) (c' : Nat), (qs.map meanQ = ofH l ∧ ∀ q ∈ qs, okQ q) ∧ v = .slice a' qs.length c' ∧ Fresh w w' [TabQ a' qs.length c' (qs.map rawQ), OwnQ qs] := by
  refine Ret_of (l := [_]) Tryz.func22 rfl Tryz.ntmps22 (by simp) ?_
  have hs := St.init w
  have hl := h.len
  have hil := idxH_len l
  have hio := idxH_ok l
  obtain ⟨is_, his⟩ : ∃ is_, is_ = idxH l := ⟨_, rfl⟩
  rw [← his] at hil hio
  have hof : ofH l = is_.map fun n => (n, underH l n) := by rw [his]; rfl
  have hlo := sl_okH h
  repeat' (first
    | ((apply al_call 84; refine JL_o (by exact OpR_callF en84 rfl (idx15_r _ a n c l (h.st hs) (by omega))) rfl rfl ?_; rintro _ _ ⟨a7, c7, rfl, hf⟩; rw [← his] at hf ⊢; have hs := hs.fresh hf; (try simp only [List.cons_append, List.nil_append] at hs)))
    | (apply JL_nil)
    | ((apply JL_pure); (first
      | (apply as_move; exact OpR_move rfl is_rfl)
      | (apply as_assign; exact OpR_assign rfl is_rfl)
      | (apply as_b_len; exact OpR_len rfl is_rfl)); first | (exact rfl; exact rfl) | exact rfl)
    | (apply J_seq)
    | (apply J_region)
    | (apply J_block))
  have hs := (hs.nilQ).nilRow 116 2
  refine J_loopK (α := Nat × List QR × Option Addr × Nat) [(0, _), (7, _), (8, _)] (fun g => [(3, .slice g.2.2.1 g.2.1.length g.2.2.2), (9, .int .i64 g.1)]) (fun g w' => St w NoF w' [TabQ g.2.2.1 g.2.1.length g.2.2.2 (g.2.1.map rawQ), OwnQ g.2.1, RowI a7 is_.length c7 is_] ∧ (g.1 ≤ is_.length ∧ g.2.1.length = g.1) ∧ g.2.1.map meanQ = (is_.take g.1).map (fun n => (n, underH l n)) ∧ ∀ q ∈ g.2.1, okQ q) (fun g => is_.length - g.1) (0, [], none, 0) ⟨hs, ⟨Nat.zero_le _, rfl⟩, rfl, (fun q hq => (by cases hq))⟩ (by repeat' (first | exact trivial | exact rfl | apply And.intro)) ?_
  rintro ⟨k, qs, a', c'⟩ w2 ⟨hs1, ⟨hk, hql⟩, hqm, hqo⟩ ih
  dsimp only at hs1 hk hql hqm hqo ih ⊢
  by_cases hlt : k < is_.length
  · have hs : St w NoF w2 [_, _, _] := hs1
    obtain ⟨p, o, rfl⟩ := (hs.row a7 is_.length c7).some (by omega)
    have hs : St w NoF w2 [_, _, _] := hs1
    have hx : is_[k]? = some (is_[k]'hlt) := List.getElem?_eq_getElem hlt
    obtain ⟨y, hyd⟩ : ∃ y, y = is_[k]'hlt := ⟨_, rfl⟩
    rw [← hyd] at hx
    have hcx : (is_.map (Value.int .i64))[k]? = some (.int .i64 y) := by rw [List.getElem?_map, hx]; rfl
    repeat' (first
      | ((apply al_call 85; refine JL_o (by exact OpR_callF en85 rfl (under15_r _ a n c l y (h.st hs) (by omega))) rfl rfl ?_; rintro _ _ ⟨a8, c8, rfl, hf⟩; have hs := hs.fresh hf; (try simp only [List.cons_append, List.nil_append] at hs)))
      | ((apply al_none (t := 20); refine JL_o (by apply as_b_append; exact OpR_append (xs := encL cRef (qs.map rawQ)) (news := cRef (y, (a8, (underH l y).length, c8))) hs rfl rfl (src_blkR (hs.blk (b := b19))) plain_blk rfl (by omega) (by unfold maxLen; omega)) rfl rfl ?_; rintro _ _ ⟨a4, c4, rfl, hs, hF, hnil⟩; rw [show encL cRef (qs.map rawQ) ++ cRef (y, (a8, (underH l y).length, c8)) = encL cRef ((qs ++ [(y, (a8, (underH l y).length, c8), underH l y)]).map rawQ) from by rw [encR_snoc, List.map_append]; rfl] at hs))
      | (apply JL_nil)
      | ((apply JL_pure); (first
      | (apply as_load; first | exact OpR_load' hs rfl rfl is_rfl | exact OpR_loadRow (b := p) (o := o) (i := k) (n := is_.length) (c := c7) hs rfl hcx is_rfl)
      | (apply as_move; exact OpR_move rfl is_rfl)
      | (apply as_assign; exact OpR_assign rfl is_rfl)
      | (apply as_add; exact OpR_addn rfl rfl (by omega) (by first | (simp only [Int.reduceAdd]; exact rfl) | exact rfl) is_rfl)
      | (apply as_binOp; exact OpR_ibin rfl rfl rfl is_rfl)
      | (apply as_indexAddr; exact OpR_indexAddr rfl rfl (by omega) (by omega) is_rfl)
      | (apply as_build; exact OpR_build rfl (by (simp only [bld, placesOf, splice, Value.cells, List.take_succ_cons, List.take_zero, List.drop_succ_cons, List.drop_zero, List.cons_append, List.nil_append, List.length_cons, List.length_nil, List.getElem?_cons_zero, List.getElem?_cons_succ, Option.map_some, List.append_nil, Nat.reduceAdd, Nat.reduceMul, Nat.zero_add, Nat.reduceLeDiff, and_self, if_true, List.toList_toArray, Nat.le_refl, Nat.zero_mul, Nat.one_mul]; first | done | rfl)) is_rfl)); first | (exact rfl; exact rfl) | exact rfl)
      | (apply J_seq)
      | (apply J_region)
      | (apply J_block)
      | (apply J_inBlock)
      | (apply J_skip)
      | (apply al_none (t := 19); refine JL_o (by apply as_buildSlice; exact OpR_buildSlice hs rfl (by omega) rfl) rfl rfl ?_; rintro _ _ ⟨b19, rfl, hb19, hs, hE⟩)
      | (apply aj_cond; refine J_dec_t rfl ob ?_))
    have hs : St w NoF _ (rowQ (y, (a8, (underH l y).length, c8), underH l y) :: OwnQ qs :: [TabQ a4 (qs.length + 1) c4 _, RowI _ is_.length c7 is_]) := hs.sel [1, 3, 2, 4] (by decide)
    have hs := hs.pushQ
    refine ih (k + 1, qs ++ [(y, (a8, (underH l y).length, c8), underH l y)], a4, c4) _ _ ⟨by rw [List.length_append]; exact hs.sel [1, 0, 2] (by decide), ⟨hlt, by show (qs ++ [_]).length = _; rw [List.length_append, hql]; rfl⟩, ?_, ?_⟩ (by show is_.length - (k + 1) < is_.length - k; omega) (by rw [List.length_append]; repeat' (first | exact trivial | exact rfl | apply And.intro))
    · show (qs ++ [_]).map meanQ = _
      rw [List.map_append, hqm, List.take_add_one, hx, List.map_append]; rfl
    · intro q hq
      rcases List.mem_append.1 hq with e | e
      · exact hqo q e
      · rw [List.mem_singleton.1 e]
        exact ⟨hio y (List.mem_of_getElem? hx), rfl, fun x hx => hlo x (underH_mem.1 hx).1⟩
  · have hs : St w NoF w2 [_, _, _] := hs1
    rw [List.take_of_length_le (by omega)] at hqm
    repeat' (first
      | (apply JL_nil)
      | ((apply JL_pure); (first
      | (apply as_move; exact OpR_move rfl is_rfl)
      | (apply as_assign; exact OpR_assign rfl is_rfl)
      | (apply as_binOp; exact OpR_ibin rfl rfl rfl is_rfl)); first | (exact rfl; exact rfl) | exact rfl)
      | (apply J_seq)
      | (apply J_region)
      | (apply aj_exit; refine J_exit rfl ?_)
      | (apply aj_cond; refine J_dec_f rfl ob ?_))
    refine J_leave Tryz.func22 rfl (.tmp rfl .nil) ⟨qs, _, _, ⟨by rw [hqm, hof], hqo⟩, rfl, hs.out (.cons_cons _ (.cons_cons _ (List.nil_sublist _)))⟩
end Go.Eng
/- Referrers: what the reference asks of them. -/
namespace Go.Eng
open Go.Proofs
set_option linter.unusedSimpArgs false
set_option linter.unusedVariables false
def tot (l : List RH) : Nat := (l.flatMap (·.2)).length
theorem allH_len (l : List RH) : (allH l).length ≤ tot l := by
  have := foldW_len (l.flatMap (·.2)) []
  simpa [allH, tot] using this
def holdM (A : List HH) (n : Int) : List Int := ((underH A n).map Prod.fst).foldl putI []
theorem foldP_len : ∀ (xs l : List Int), (xs.foldl putI l).length ≤ l.length + xs.length
  | [], l => by simp
  | y :: xs, l => by
    have h1 := foldP_len xs (putI l y)
    have h2 := putI_len l y
    rw [List.foldl_cons, List.length_cons]
    omega
theorem foldP_ok : ∀ (xs l : List Int), (∀ x ∈ xs, inK .i64 x) → (∀ x ∈ l, inK .i64 x) → ∀ x ∈ xs.foldl putI l, inK .i64 x
  | [], l, _, h2 => h2
  | y :: xs, l, h1, h2 => foldP_ok xs (putI l y) (fun x hx => h1 x (List.mem_cons_of_mem _ hx)) (fun x hx => by
    rcases putI_mem.1 hx with e | e
    · rw [e]; exact h1 y List.mem_cons_self
    · exact h2 x e)
attribute [local irreducible] Hold J JL JD JX JXat OpR OpG Ret RetV Is Blk Row MapC
set_option maxRecDepth 100000
set_option maxHeartbeats 1000000
theorem all15_r (w : World) (a : Option Addr) (n c : Nat) (l : List RH) (h : Sl dRef All w a n c l) (hb : tot l ≤ 1000000) :
    Ret Tryz.prog 14 #[.slice a n c] w fun v w' => ∃ a' c', v = .slice a' (allH l).length c' ∧ Fresh w w' [RowH a' (allH l).length c' (allH l)] := by
  refine Ret_of (l := [_]) Tryz.func14 rfl Tryz.ntmps14 (by simp) ?_
  have hs := St.init w
  have hl := h.len
  have hlo := sl_okR h
  obtain ⟨rs, hr, hm⟩ := Sl.raw (D := rawRef) h
  have hmx : n ≤ 9223372036854775807 := by have h1 := h.le; have h2 := h.cap; unfold maxLen at h2; omega
  repeat' (first
    | (apply JL_nil)
    | ((apply JL_pure); (first
      | (apply as_move; exact OpR_move rfl is_rfl)
      | (apply as_assign; exact OpR_assign rfl is_rfl)
      | (apply as_b_len; exact OpR_len rfl is_rfl)); first | (exact rfl; exact rfl) | exact rfl)
    | (apply J_seq)
    | (apply J_region)
    | (apply J_block))
  have hs := hs.nilRow 31 2
  refine J_loopK (α := Nat × List HH × Option Addr × Nat) [(8, _), (9, _)] (fun g => [(3, .slice g.2.2.1 g.2.1.length g.2.2.2), (10, .int .i64 g.1)]) (fun g w' => St w NoF w' [RowH g.2.2.1 g.2.1.length g.2.2.2 g.2.1] ∧ g.1 ≤ n ∧ g.2.1 = ((l.take g.1).flatMap (·.2)).foldl withH []) (fun g => n - g.1) (0, [], none, 0) ⟨hs, Nat.zero_le _, rfl⟩ (by repeat' (first | exact trivial | exact rfl | apply And.intro)) ?_
  rintro ⟨k, zs, a', c'⟩ w2 ⟨hs1, hk, hzs⟩ ih
  dsimp only at hs1 hk hzs ih ⊢
  by_cases hlt : k < n
  · obtain ⟨p, o, rfl⟩ := hr.sl.addr (by omega)
    have hs : St w NoF w2 [_] := hs1
    have hx : l[k]? = some (l[k]'(by omega)) := List.getElem?_eq_getElem (by omega)
    obtain ⟨x, hxd⟩ : ∃ x, x = l[k]'(by omega) := ⟨_, rfl⟩
    rw [← hxd] at hx
    obtain ⟨r, hrx, e1, e2⟩ := hm.get hx
    have mx : Sl dHeld All w r.2.1 r.2.2.1 r.2.2.2 x.2 := e2
    have hxo := (hlo x (List.mem_of_getElem? hx)).2
    have hmn := mx.len
    have hmc : r.2.2.1 ≤ 9223372036854775807 := by have h1 := mx.le; have h2 := mx.cap; unfold maxLen at h2; omega
    have hsp := congrArg List.length (flat_split hx)
    rw [List.length_append, List.length_append] at hsp
    have hb2 : (l.flatMap (·.2)).length ≤ 1000000 := hb
    have hfo : ∀ j, ∀ y ∈ (((l.take k).flatMap (·.2)) ++ x.2.take j).foldl withH [], okH y := fun j => foldW_ok (fun y hy => by
      rcases List.mem_append.1 hy with e | e
      · obtain ⟨q, hq, hyq⟩ := List.mem_flatMap.1 e
        exact (hlo q (List.mem_of_mem_take hq)).2 y hyq
      · exact hxo y (List.mem_of_mem_take e)) (fun y hy => by cases hy) List.Pairwise.nil
    repeat' (first
      | (apply JL_nil)
      | ((apply JL_pure); (first
      | (apply as_load; first | exact OpR_load' hs rfl rfl is_rfl | exact OpR_load_agg' hs rfl is_rfl | exact OpR_load_el (hr.st hs) hrx rfl rfl is_rfl)
      | (apply as_move; exact OpR_move rfl is_rfl)
      | (apply as_fieldAddr; exact OpR_fieldAddr0 rfl rfl is_rfl)
      | (apply as_binOp; exact OpR_ibin rfl rfl rfl is_rfl)
      | (apply as_b_len; exact OpR_len rfl is_rfl)
      | (apply as_indexAddr; exact OpR_indexAddr rfl rfl (by omega) (by omega) is_rfl)); first | (exact rfl; exact rfl) | exact rfl)
      | (apply J_seq)
      | (apply J_region)
      | (apply J_block)
      | (apply J_skip)
      | (apply al_none (t := 5); refine JL_o (by apply as_alloc; exact OpR_alloc' hs) rfl rfl ?_; rintro _ _ ⟨b5, rfl, hb5, hs, hE⟩)
      | (apply al_unit; refine JL_u (by apply as_store; exact OpR_store' hs rfl rfl rfl) rfl ?_; rintro _ _ ⟨hs, hF⟩)
      | (apply aj_cond; refine J_dec_t rfl ob ?_))
    refine J_loopK (α := Nat × List HH × Option Addr × Nat) [(8, _), (9, _), (10, _), (15, _), (16, _)] (fun g => [(3, .slice g.2.2.1 g.2.1.length g.2.2.2), (17, .int .i64 g.1)]) (fun g w' => St w NoF w' [RowH g.2.2.1 g.2.1.length g.2.2.2 g.2.1] ∧ g.1 ≤ r.2.2.1 ∧ g.2.1 = (((l.take k).flatMap (·.2)) ++ x.2.take g.1).foldl withH []) (fun g => r.2.2.1 - g.1) (0, zs, a', c') ⟨hs.sel [1] (by decide), Nat.zero_le _, by show zs = _; rw [hzs]; simp⟩ (by repeat' (first | exact trivial | exact rfl | apply And.intro)) ?_
    rintro ⟨j, ys, a3, c3⟩ w3 ⟨hs1, hj, hys⟩ ih2
    dsimp only at hs1 hj hys ih2 ⊢
    by_cases hlj : j < r.2.2.1
    · obtain ⟨p2, o2, ha2⟩ := mx.sl.addr (by omega)
      rw [ha2] at mx ⊢
      have hs : St w NoF w3 [_] := hs1
      have hy : x.2[j]? = some (x.2[j]'(by omega)) := List.getElem?_eq_getElem (by omega)
      obtain ⟨y, hyd⟩ : ∃ y, y = x.2[j]'(by omega) := ⟨_, rfl⟩
      rw [← hyd] at hy
      have hyo := hxo y (List.mem_of_getElem? hy)
      have hyl : ys.length ≤ 1000000 := by
        rw [hys]
        have := foldW_len (((l.take k).flatMap (·.2)) ++ x.2.take j) []
        rw [List.length_append, List.length_take] at this
        simp only [List.length_nil] at this
        omega
      have hyk : ∀ y ∈ ys, okH y := by rw [hys]; exact hfo j
      repeat' (first
        | ((apply al_call 19; refine JL_o (by exact OpR_callF en19 rfl (with15_r _ a3 ys.length c3 ys y (slH hs (by repeat (first | exact List.Mem.head _ | apply List.Mem.tail)) hyk) (by omega))) rfl rfl ?_; rintro _ _ ⟨a4, c4, rfl, hf⟩; have hs := hs.fresh hf; (try simp only [List.cons_append, List.nil_append] at hs)))
        | (apply JL_nil)
        | ((apply JL_pure); (first
      | (apply as_load; first | exact OpR_load' hs rfl rfl is_rfl | exact OpR_load_agg' hs rfl is_rfl | exact OpR_load_el (mx.st hs) hy rfl rfl is_rfl)
      | (apply as_move; exact OpR_move rfl is_rfl)
      | (apply as_assign; exact OpR_assign rfl is_rfl)
      | (apply as_add; exact OpR_addn rfl rfl (by omega) (by first | (simp only [Int.reduceAdd]; exact rfl) | exact rfl) is_rfl)
      | (apply as_binOp; exact OpR_ibin rfl rfl rfl is_rfl)
      | (apply as_indexAddr; exact OpR_indexAddr rfl rfl (by omega) (by omega) is_rfl)); first | (exact rfl; exact rfl) | exact rfl)
        | (apply J_seq)
        | (apply J_region)
        | (apply J_block)
        | (apply J_inBlock)
        | (apply J_skip)
        | (apply al_none (t := 7); refine JL_o (by apply as_alloc; exact OpR_alloc' hs) rfl rfl ?_; rintro _ _ ⟨b7, rfl, hb7, hs, hE⟩)
        | (apply al_unit; refine JL_u (by apply as_store; exact OpR_store' hs rfl rfl rfl) rfl ?_; rintro _ _ ⟨hs, hF⟩)
        | (apply aj_cond; refine J_dec_t rfl ob ?_))
      rw [← ha2]
      refine ih2 (j + 1, withH ys y, a4, c4) _ _ ⟨hs.sel [0] (by decide), hlj, by show withH ys y = (((l.take k).flatMap (·.2)) ++ x.2.take (j + 1)).foldl withH []; rw [List.take_add_one, hy, ← List.append_assoc]; show withH ys y = (_ ++ [y]).foldl withH []; rw [List.foldl_append, ← hys]; rfl⟩ (by show r.2.2.1 - (j + 1) < r.2.2.1 - j; omega) (by repeat' (first | exact trivial | exact rfl | apply And.intro))
    · have hs : St w NoF w3 [_] := hs1
      rw [List.take_of_length_le (l := x.2) (by omega)] at hys
      repeat' (first
        | (apply JL_nil)
        | ((apply JL_pure); (first
      | (apply as_move; exact OpR_move rfl is_rfl)
      | (apply as_add; exact OpR_addn rfl rfl (by omega) (by first | (simp only [Int.reduceAdd]; exact rfl) | exact rfl) is_rfl)
      | (apply as_binOp; exact OpR_ibin rfl rfl rfl is_rfl)); first | (exact rfl; exact rfl) | exact rfl)
        | (apply J_seq)
        | (apply J_region)
        | (apply J_inBlock)
        | (apply aj_exit; refine J_exit rfl ?_)
        | (apply aj_cond; refine J_dec_f rfl ob ?_))
      refine ih (k + 1, ys, a3, c3) _ _ ⟨hs, hlt, by show ys = _; rw [hys, flat_succ hx]⟩ (by show n - (k + 1) < n - k; omega) (by repeat' (first | exact trivial | exact rfl | apply And.intro))
  · have hs : St w NoF w2 [_] := hs1
    rw [List.take_of_length_le (by omega)] at hzs
    have hw : zs = allH l := hzs
    repeat' (first
      | (apply JL_nil)
      | ((apply JL_pure); (first
      | (apply as_move; exact OpR_move rfl is_rfl)
      | (apply as_assign; exact OpR_assign rfl is_rfl)
      | (apply as_binOp; exact OpR_ibin rfl rfl rfl is_rfl)); first | (exact rfl; exact rfl) | exact rfl)
      | (apply J_seq)
      | (apply J_region)
      | (apply aj_exit; refine J_exit rfl ?_)
      | (apply aj_cond; refine J_dec_f rfl ob ?_))
    rw [← hw]
    refine J_leave Tryz.func14 rfl (.tmp rfl .nil) ⟨_, _, rfl, hs.out (List.Sublist.refl _)⟩
theorem Same15_r (w : World) (a1 a2 : Option Addr) (n1 c1 n2 c2 : Nat) (l1 l2 : List RH) (h1 : Sl dRef All w a1 n1 c1 l1) (h2 : Sl dRef All w a2 n2 c2 l2) :
    Ret Tryz.prog 21 #[.slice a1 n1 c1, .slice a2 n2 c2] w fun v w' => v = .bool (decide (l1 = l2)) ∧ Ext w w' := by
  refine Ret_of (l := [_, _]) Tryz.func21 rfl Tryz.ntmps21 (by simp) ?_
  have hs := St.init w
  have hl1 := h1.len
  have hl2 := h2.len
  obtain ⟨rs1, hr1, hm1⟩ := Sl.raw (D := rawRef) h1
  obtain ⟨rs2, hr2, hm2⟩ := Sl.raw (D := rawRef) h2
  have hmx : n1 ≤ 9223372036854775807 := by have h3 := h1.le; have h4 := h1.cap; unfold maxLen at h4; omega
  by_cases hn : n1 = n2
  · subst hn
    repeat' (first
      | (apply JL_nil)
      | ((apply JL_pure); (first
      | (apply as_move; exact OpR_move rfl is_rfl)
      | (apply as_assign; exact OpR_assign rfl is_rfl)
      | (apply as_binOp; exact OpR_ibin rfl rfl rfl is_rfl)
      | (apply as_b_len; exact OpR_len rfl is_rfl)); first | (exact rfl; exact rfl) | exact rfl)
      | (apply J_seq)
      | (apply J_region)
      | (apply J_block)
      | (apply J_skip)
      | (apply aj_cond; refine J_dec_f rfl ob ?_))
    refine J_loopK (α := Nat) [(1, _), (12, _), (13, _)] (fun k => [(14, .int .i64 k)]) (fun k w' => St w NoF w' [] ∧ k ≤ n1 ∧ l1.take k = l2.take k) (fun k => n1 - k) 0 ⟨hs, Nat.zero_le _, rfl⟩ (by repeat' (first | exact trivial | exact rfl | apply And.intro)) ?_
    rintro k w2 ⟨hs1, hk, heq⟩ ih
    have hs : St w NoF w2 [] := hs1
    by_cases hlt : k < n1
    · obtain ⟨p, o, rfl⟩ := hr1.sl.addr (by omega)
      obtain ⟨p2, o2, rfl⟩ := hr2.sl.addr (by omega)
      have hs : St w NoF w2 [] := hs1
      have hx : l1[k]? = some (l1[k]'(by omega)) := List.getElem?_eq_getElem (by omega)
      have hy : l2[k]? = some (l2[k]'(by omega)) := List.getElem?_eq_getElem (by omega)
      obtain ⟨x, hxd⟩ : ∃ x, x = l1[k]'(by omega) := ⟨_, rfl⟩
      obtain ⟨y, hyd⟩ : ∃ y, y = l2[k]'(by omega) := ⟨_, rfl⟩
      rw [← hxd] at hx
      rw [← hyd] at hy
      obtain ⟨r, hrx, e1, e2⟩ := hm1.get hx
      obtain ⟨q, hqy, e3, e4⟩ := hm2.get hy
      have e1 : r.1 = x.1 := e1
      have e3 : q.1 = y.1 := e3
      have mx : Sl dHeld All w r.2.1 r.2.2.1 r.2.2.2 x.2 := e2
      have my : Sl dHeld All w q.2.1 q.2.2.1 q.2.2.2 y.2 := e4
      have hne : x ≠ y → l1 ≠ l2 := fun hxy e => hxy (by subst e; rw [hx] at hy; exact Option.some.inj hy)
      by_cases hc1 : r.1 = q.1
      · by_cases hc2 : x.2 = y.2
        · have hxy : x = y := Prod.ext (by rw [← e1, ← e3, hc1]) hc2
          repeat' (first
            | ((apply ax_c; apply JX_cFg 83; exact rfl; exact rfl; exact gb; (intro W X hN hs; exact OpR_callF en83 rfl (same15_r _ r.2.1 q.2.1 r.2.2.1 r.2.2.2 q.2.2.1 q.2.2.2 x.2 y.2 (mx.st hs) (my.st hs))); (rintro _ _ _ _ ⟨rfl, hE⟩; first | exact hE | exact Fresh.ext hf); rintro W X _ _ hN hs ⟨rfl, hE⟩; rw [decide_eq_true hc2]; have hs := hs.ext hE; (try simp only [List.cons_append, List.nil_append] at hs); refine JX.at hs ?_))
            | (apply JL_nil)
            | ((first | (apply JL_pure) | (apply JX_f; exact rfl; intro W X hs) | (apply JX_f_on; exact rfl; exact rfl; exact gb; intro W X hs)); (first
      | (apply as_load; first | exact OpR_load' hs rfl rfl is_rfl | exact OpR_load_agg' hs rfl is_rfl | exact OpR_load_el (b := p) (o := o) (hr1.st hs) hrx rfl rfl is_rfl | exact OpR_load_el1 (b := p2) (o := o2) (i := k) (j := 0) (hr2.st hs) hqy rfl rfl rfl is_rfl | exact OpR_load_el1 (b := p2) (o := o2) (i := k) (j := 1) (hr2.st hs) hqy rfl rfl rfl is_rfl)
      | (apply as_move; exact OpR_move rfl is_rfl)
      | (apply as_assign; exact OpR_assign rfl is_rfl)
      | (apply as_fieldAddr; first | exact OpR_fieldAddr0 rfl rfl is_rfl | exact OpR_fieldAddr rfl rfl is_rfl)
      | (apply as_add; exact OpR_addn rfl rfl (by omega) (by first | (simp only [Int.reduceAdd]; exact rfl) | exact rfl) is_rfl)
      | (apply as_binOp; exact OpR_ibin rfl rfl rfl is_rfl)
      | (apply as_unOp; exact OpR_not rfl is_rfl)
      | (apply as_pick; exact OpR_pick_f rfl gb rfl is_rfl)
      | (apply as_indexAddr; exact OpR_indexAddr rfl rfl (by omega) (by omega) is_rfl)); first | (exact rfl; exact rfl) | exact rfl)
            | (apply J_seq)
            | (apply J_region)
            | (apply J_block)
            | (apply J_inBlock)
            | (apply J_skip)
            | (apply al_none (t := 6); refine JL_o (by apply as_alloc; exact OpR_alloc' hs) rfl rfl ?_; rintro _ _ ⟨b6, rfl, hb6, hs, hE⟩)
            | (apply al_unit; refine JL_u (by apply as_store; exact OpR_store' hs rfl rfl rfl) rfl ?_; rintro _ _ ⟨hs, hF⟩)
            | (apply aj_cond; first | refine J_dec_t rfl ob ?_ | refine J_cond_f rfl gb ?_)
            | (apply aj_draw; (refine J_drawX (id := 6) [0, 1, 0, 0, 12, 28, 60, 127, 255, 511, 1023, 511, 511, 6655, 14847, 31231, 65535, 131071, 262143] [(0, 0), (1, 0), (2, 0), (3, 0), (4, 0), (5, 0), (6, 0), (7, 0), (8, 0), (9, 0), (10, 0), (11, 0), (12, 0), (13, 0), (14, 0), (15, 0), (16, 1), (17, 0), (18, 0)] [] hs mixed (by kernel_rfl) (by kernel_rfl) (by kernel_rfl) (by kernel_rfl) (by kernel_rfl) ?_))
            | (refine JX_done (fun W hs => ?_))
            | (apply JD_done))
          refine ih (k + 1) _ _ ⟨hs.sel [] (by decide), hlt, take_eq_succ hx (by rw [hxy]; exact hy) heq⟩ (by omega) (by repeat' (first | exact trivial | exact rfl | apply And.intro))
        · have hd := hne (fun e => hc2 (by rw [e]))
          repeat' (first
            | ((apply ax_c; apply JX_cFg 83; exact rfl; exact rfl; exact gb; (intro W X hN hs; exact OpR_callF en83 rfl (same15_r _ r.2.1 q.2.1 r.2.2.1 r.2.2.2 q.2.2.1 q.2.2.2 x.2 y.2 (mx.st hs) (my.st hs))); (rintro _ _ _ _ ⟨rfl, hE⟩; first | exact hE | exact Fresh.ext hf); rintro W X _ _ hN hs ⟨rfl, hE⟩; rw [decide_eq_false hc2]; have hs := hs.ext hE; (try simp only [List.cons_append, List.nil_append] at hs); refine JX.at hs ?_))
            | (apply JL_nil)
            | ((first | (apply JL_pure) | (apply JX_f; exact rfl; intro W X hs) | (apply JX_f_on; exact rfl; exact rfl; exact gb; intro W X hs)); (first
      | (apply as_load; first | exact OpR_load' hs rfl rfl is_rfl | exact OpR_load_agg' hs rfl is_rfl | exact OpR_load_el (b := p) (o := o) (hr1.st hs) hrx rfl rfl is_rfl | exact OpR_load_el1 (b := p2) (o := o2) (i := k) (j := 0) (hr2.st hs) hqy rfl rfl rfl is_rfl | exact OpR_load_el1 (b := p2) (o := o2) (i := k) (j := 1) (hr2.st hs) hqy rfl rfl rfl is_rfl)
      | (apply as_move; exact OpR_move rfl is_rfl)
      | (apply as_assign; exact OpR_assign rfl is_rfl)
      | (apply as_fieldAddr; first | exact OpR_fieldAddr0 rfl rfl is_rfl | exact OpR_fieldAddr rfl rfl is_rfl)
      | (apply as_binOp; exact OpR_ibin rfl rfl rfl is_rfl)
      | (apply as_unOp; exact OpR_not rfl is_rfl)
      | (apply as_pick; exact OpR_pick_f rfl gb rfl is_rfl)
      | (apply as_indexAddr; exact OpR_indexAddr rfl rfl (by omega) (by omega) is_rfl)); first | (exact rfl; exact rfl) | exact rfl)
            | (apply J_seq)
            | (apply J_region)
            | (apply J_block)
            | (apply J_skip)
            | (apply al_none (t := 6); refine JL_o (by apply as_alloc; exact OpR_alloc' hs) rfl rfl ?_; rintro _ _ ⟨b6, rfl, hb6, hs, hE⟩)
            | (apply al_unit; refine JL_u (by apply as_store; exact OpR_store' hs rfl rfl rfl) rfl ?_; rintro _ _ ⟨hs, hF⟩)
            | (apply aj_cond; first | refine J_dec_t rfl ob ?_ | refine J_cond_t rfl gb ?_)
            | (apply aj_draw; (refine J_drawX (id := 6) [0, 1, 0, 0, 12, 28, 60, 127, 255, 511, 1023, 511, 511, 6655, 14847, 31231, 65535, 131071, 262143] [(0, 0), (1, 0), (2, 0), (3, 0), (4, 0), (5, 0), (6, 0), (7, 0), (8, 0), (9, 0), (10, 0), (11, 0), (12, 0), (13, 0), (14, 0), (15, 0), (16, 1), (17, 0), (18, 0)] [] hs mixed (by kernel_rfl) (by kernel_rfl) (by kernel_rfl) (by kernel_rfl) (by kernel_rfl) ?_))
            | (refine JX_done (fun W hs => ?_))
            | (apply JD_done))
          refine J_leave Tryz.func21 rfl (.tmp rfl .nil) ⟨congrArg Value.bool (decide_eq_false hd).symm, hs.frm.ext⟩
      · have hd := hne (fun e => hc1 (by rw [e1, e3, e]))
        repeat' (first
          | (apply JL_nil)
          | ((first | (apply JL_pure) | (apply JX_f; exact rfl; intro W X hs)); (first
      | (apply as_load; first | exact OpR_load' hs rfl rfl is_rfl | exact OpR_load_agg' hs rfl is_rfl | exact OpR_load_el (b := p) (o := o) (hr1.st hs) hrx rfl rfl is_rfl | exact OpR_load_el1 (b := p2) (o := o2) (i := k) (j := 0) (hr2.st hs) hqy rfl rfl rfl is_rfl | exact OpR_load_el1 (b := p2) (o := o2) (i := k) (j := 1) (hr2.st hs) hqy rfl rfl rfl is_rfl)
      | (apply as_move; exact OpR_move rfl is_rfl)
      | (apply as_assign; exact OpR_assign rfl is_rfl)
      | (apply as_fieldAddr; first | exact OpR_fieldAddr0 rfl rfl is_rfl | exact OpR_fieldAddr rfl rfl is_rfl)
      | (apply as_binOp; exact OpR_ibin rfl rfl rfl is_rfl)
      | (apply as_pick; exact OpR_pick_t rfl gb rfl is_rfl)
      | (apply as_indexAddr; exact OpR_indexAddr rfl rfl (by omega) (by omega) is_rfl)); first | (exact rfl; exact rfl) | exact rfl)
          | (apply J_seq)
          | (apply J_region)
          | (apply J_block)
          | (apply J_skip)
          | (apply al_none (t := 6); refine JL_o (by apply as_alloc; exact OpR_alloc' hs) rfl rfl ?_; rintro _ _ ⟨b6, rfl, hb6, hs, hE⟩)
          | (apply al_unit; refine JL_u (by apply as_store; exact OpR_store' hs rfl rfl rfl) rfl ?_; rintro _ _ ⟨hs, hF⟩)
          | (apply aj_cond; first | refine J_dec_t rfl ob ?_ | refine J_cond_t rfl gb ?_)
          | (apply aj_draw; (refine J_drawX (id := 6) [0, 1, 0, 0, 12, 28, 60, 127, 255, 511, 1023, 511, 511, 6655, 14847, 31231, 65535, 131071, 262143] [(0, 0), (1, 0), (2, 0), (3, 0), (4, 0), (5, 0), (6, 0), (7, 0), (8, 0), (9, 0), (10, 0), (11, 0), (12, 0), (13, 0), (14, 0), (15, 0), (16, 1), (17, 0), (18, 0)] [] hs mixed (by kernel_rfl) (by kernel_rfl) (by kernel_rfl) (by kernel_rfl) (by kernel_rfl) ?_))
          | (refine JX_done (fun W hs => ?_))
          | (refine JX_f_off rfl rfl gb rfl ?_)
          | (refine JX_c_off rfl rfl gb rfl ?_)
          | (apply JD_done))
        refine J_leave Tryz.func21 rfl (.tmp rfl .nil) ⟨congrArg Value.bool (decide_eq_false hd).symm, hs.frm.ext⟩
    · rw [List.take_of_length_le (by omega), List.take_of_length_le (by omega)] at heq
      repeat' (first
        | (apply JL_nil)
        | ((apply JL_pure); (first
      | (apply as_assign; exact OpR_assign rfl is_rfl)
      | (apply as_binOp; exact OpR_ibin rfl rfl rfl is_rfl)); first | (exact rfl; exact rfl) | exact rfl)
        | (apply J_seq)
        | (apply J_region)
        | (apply aj_exit; refine J_exit rfl ?_)
        | (apply aj_cond; refine J_dec_f rfl ob ?_))
      refine J_leave Tryz.func21 rfl (.tmp rfl .nil) ⟨congrArg Value.bool (decide_eq_true heq).symm, hs.frm.ext⟩
  · repeat' (first
      | (apply JL_nil)
      | ((apply JL_pure); (first
      | (apply as_move; exact OpR_move rfl is_rfl)
      | (apply as_assign; exact OpR_assign rfl is_rfl)
      | (apply as_binOp; exact OpR_ibin rfl rfl rfl is_rfl)
      | (apply as_b_len; exact OpR_len rfl is_rfl)); first | (exact rfl; exact rfl) | exact rfl)
      | (apply J_seq)
      | (apply J_region)
      | (apply aj_cond; refine J_dec_t rfl ob ?_))
    refine J_leave Tryz.func21 rfl (.tmp rfl .nil) ⟨congrArg Value.bool (decide_eq_false fun e => hn (by rw [← hl1, ← hl2, e])).symm, hs.frm.ext⟩
theorem right15_r (w : World) (a : Option Addr) (n c : Nat) (l : List RH) (h : Sl dRef All w a n c l) (hb : tot l ≤ 1000000) :
    Ret Tryz.prog 12 #[.slice a n c] w fun v w' => v = .bool (rightH l) ∧ Ext w w' := by
  refine Ret_of (l := [_]) Tryz.func12 rfl Tryz.ntmps12 (by simp) ?_
  have hs := St.init w
  have hal := allH_len l
  obtain ⟨A, hA⟩ : ∃ A, A = allH l := ⟨_, rfl⟩
  have hAo : ∀ x ∈ A, okH x := by rw [hA]; exact fun x hx => by obtain ⟨r, hr, hxr⟩ := allH_mem.1 hx; exact (sl_okR h r hr).2 x hxr
  unfold rightH
  rw [← hA] at hal ⊢
  repeat' (first
    | ((apply al_call 14; refine JL_o (by exact OpR_callF en14 rfl (all15_r _ a n c l (h.st hs) hb)) rfl rfl ?_; rintro _ _ ⟨a3, c3, rfl, hf⟩; rw [← hA] at hf ⊢; have hs := hs.fresh hf; (try simp only [List.cons_append, List.nil_append] at hs)))
    | (apply JL_nil)
    | ((apply JL_pure); (first
      | (apply as_move; exact OpR_move rfl is_rfl)
      | (apply as_assign; exact OpR_assign rfl is_rfl)
      | (apply as_b_len; exact OpR_len rfl is_rfl)); first | (exact rfl; exact rfl) | exact rfl)
    | (apply J_seq)
    | (apply J_region)
    | (apply J_block))
  refine J_loopK (α := Nat) [(0, _), (3, _), (8, _), (9, _)] (fun k => [(10, .int .i64 k)]) (fun k w' => St w NoF w' [RowH a3 A.length c3 A] ∧ k ≤ A.length ∧ ∀ x ∈ A.take k, mayH x = true) (fun k => A.length - k) 0 ⟨hs, Nat.zero_le _, (fun x hx => by cases hx)⟩ (by repeat' (first | exact trivial | exact rfl | apply And.intro)) ?_
  rintro k w2 ⟨hs1, hk, hma⟩ ih
  by_cases hlt : k < A.length
  · have hs : St w NoF w2 [_] := hs1
    obtain ⟨p, o, rfl⟩ := (hs.row a3 A.length c3).some (by omega)
    have hs : St w NoF w2 [_] := hs1
    have hx : A[k]? = some (A[k]'hlt) := List.getElem?_eq_getElem hlt
    obtain ⟨x, hxd⟩ : ∃ x, x = A[k]'hlt := ⟨_, rfl⟩
    rw [← hxd] at hx
    have hxm := List.mem_of_getElem? hx
    by_cases hc : mayH x = true
    · repeat' (first
        | ((apply al_call 18; refine JL_o (by exact OpR_callF en18 rfl (may15_r _ x (hAo x hxm))) rfl rfl ?_; rintro _ _ ⟨rfl, hE⟩; rw [hc]; have hs := hs.ext hE; (try simp only [List.cons_append, List.nil_append] at hs)))
        | (apply JL_nil)
        | ((apply JL_pure); (first
      | (apply as_load; first | exact OpR_load' hs rfl rfl is_rfl | exact OpR_load_agg' hs rfl is_rfl | exact OpR_load_el (slH hs (by repeat (first | exact List.Mem.head _ | apply List.Mem.tail)) hAo) hx rfl rfl is_rfl)
      | (apply as_move; exact OpR_move rfl is_rfl)
      | (apply as_add; exact OpR_addn rfl rfl (by omega) (by first | (simp only [Int.reduceAdd]; exact rfl) | exact rfl) is_rfl)
      | (apply as_binOp; exact OpR_ibin rfl rfl rfl is_rfl)
      | (apply as_unOp; exact OpR_not rfl is_rfl)
      | (apply as_indexAddr; exact OpR_indexAddr rfl rfl (by omega) (by omega) is_rfl)); first | (exact rfl; exact rfl) | exact rfl)
        | (apply J_seq)
        | (apply J_region)
        | (apply J_block)
        | (apply J_inBlock)
        | (apply J_skip)
        | (apply al_none (t := 5); refine JL_o (by apply as_alloc; exact OpR_alloc' hs) rfl rfl ?_; rintro _ _ ⟨b5, rfl, hb5, hs, hE⟩)
        | (apply al_unit; refine JL_u (by apply as_store; exact OpR_store' hs rfl rfl rfl) rfl ?_; rintro _ _ ⟨hs, hF⟩)
        | (apply aj_cond; first | refine J_dec_t rfl ob ?_ | refine J_cond_f rfl gb ?_))
      refine ih (k + 1) _ _ ⟨hs.sel [1] (by decide), hlt, fun y hy => ?_⟩ (by omega) (by repeat' (first | exact trivial | exact rfl | apply And.intro))
      rw [List.take_add_one, hx] at hy
      rcases List.mem_append.1 hy with e | e
      · exact hma y e
      · have : y = x := by simpa using e
        rw [this]; exact hc
    · have hc2 : mayH x = false := by simpa using hc
      repeat' (first
        | ((apply al_call 18; refine JL_o (by exact OpR_callF en18 rfl (may15_r _ x (hAo x hxm))) rfl rfl ?_; rintro _ _ ⟨rfl, hE⟩; rw [hc2]; have hs := hs.ext hE; (try simp only [List.cons_append, List.nil_append] at hs)))
        | (apply JL_nil)
        | ((apply JL_pure); (first
      | (apply as_load; first | exact OpR_load' hs rfl rfl is_rfl | exact OpR_load_agg' hs rfl is_rfl | exact OpR_load_el (slH hs (by repeat (first | exact List.Mem.head _ | apply List.Mem.tail)) hAo) hx rfl rfl is_rfl)
      | (apply as_assign; exact OpR_assign rfl is_rfl)
      | (apply as_binOp; exact OpR_ibin rfl rfl rfl is_rfl)
      | (apply as_unOp; exact OpR_not rfl is_rfl)
      | (apply as_indexAddr; exact OpR_indexAddr rfl rfl (by omega) (by omega) is_rfl)); first | (exact rfl; exact rfl) | exact rfl)
        | (apply J_seq)
        | (apply J_region)
        | (apply J_block)
        | (apply J_skip)
        | (apply al_none (t := 5); refine JL_o (by apply as_alloc; exact OpR_alloc' hs) rfl rfl ?_; rintro _ _ ⟨b5, rfl, hb5, hs, hE⟩)
        | (apply al_unit; refine JL_u (by apply as_store; exact OpR_store' hs rfl rfl rfl) rfl ?_; rintro _ _ ⟨hs, hF⟩)
        | (apply aj_cond; first | refine J_dec_t rfl ob ?_ | refine J_cond_t rfl gb ?_))
      have hall : A.all mayH = false := by
        cases e : A.all mayH with
        | false => rfl
        | true => rw [List.all_eq_true.1 e x hxm] at hc2; cases hc2
      refine J_leave Tryz.func12 rfl (.tmp rfl .nil) ⟨by rw [hall]; rfl, hs.frm.ext⟩
  · have hs : St w NoF w2 [_] := hs1
    rw [List.take_of_length_le (by omega)] at hma
    have hall : A.all mayH = true := List.all_eq_true.2 hma
    rw [hall]
    by_cases hc : l = ofH A
    · rw [decide_eq_true hc]
      repeat' (first
        | ((apply al_call 22; refine JL_o (by exact OpR_callF en22 rfl (of15_r _ a3 A.length c3 A (slH hs (by repeat (first | exact List.Mem.head _ | apply List.Mem.tail)) hAo) (by omega))) rfl rfl ?_; rintro _ _ ⟨qs, a4, c4, ⟨hqm, hqo⟩, rfl, hf⟩; have hs := hs.fresh hf; (try simp only [List.cons_append, List.nil_append] at hs)))
        | ((apply al_call 21; refine JL_o (by exact OpR_callF en21 rfl (Same15_r _ a a4 n c qs.length c4 l (qs.map meanQ) (h.st hs) (slQ hs (by repeat (first | exact List.Mem.head _ | apply List.Mem.tail)) (by repeat (first | exact List.Mem.head _ | apply List.Mem.tail)) hqo))) rfl rfl ?_; rintro _ _ ⟨rfl, hE⟩; rw [hqm, decide_eq_true hc]; have hs := hs.ext hE; (try simp only [List.cons_append, List.nil_append] at hs)))
        | (apply JL_nil)
        | ((first | (apply JL_pure) | (apply JL_pure_on; exact rfl; exact gb)); (first
      | (apply as_move; exact OpR_move rfl is_rfl)
      | (apply as_assign; exact OpR_assign rfl is_rfl)
      | (apply as_binOp; exact OpR_ibin rfl rfl rfl is_rfl)
      | (apply as_pick; exact OpR_pick_t rfl gb rfl is_rfl)
      | (apply as_b_len; exact OpR_len rfl is_rfl)); first | (exact rfl; exact rfl) | exact rfl)
        | (apply J_seq)
        | (apply J_region)
        | (apply aj_exit; refine J_exit rfl ?_)
        | (apply aj_cond; refine J_dec_f rfl ob ?_))
      refine J_leave Tryz.func12 rfl (.tmp rfl .nil) ⟨congrArg Value.bool (by simp; omega), hs.frm.ext⟩
    · rw [decide_eq_false hc]
      repeat' (first
        | ((apply al_call 22; refine JL_o (by exact OpR_callF en22 rfl (of15_r _ a3 A.length c3 A (slH hs (by repeat (first | exact List.Mem.head _ | apply List.Mem.tail)) hAo) (by omega))) rfl rfl ?_; rintro _ _ ⟨qs, a4, c4, ⟨hqm, hqo⟩, rfl, hf⟩; have hs := hs.fresh hf; (try simp only [List.cons_append, List.nil_append] at hs)))
        | ((apply al_call 21; refine JL_o (by exact OpR_callF en21 rfl (Same15_r _ a a4 n c qs.length c4 l (qs.map meanQ) (h.st hs) (slQ hs (by repeat (first | exact List.Mem.head _ | apply List.Mem.tail)) (by repeat (first | exact List.Mem.head _ | apply List.Mem.tail)) hqo))) rfl rfl ?_; rintro _ _ ⟨rfl, hE⟩; rw [hqm, decide_eq_false hc]; have hs := hs.ext hE; (try simp only [List.cons_append, List.nil_append] at hs)))
        | (apply JL_nil)
        | ((apply JL_pure); (first
      | (apply as_move; exact OpR_move rfl is_rfl)
      | (apply as_assign; exact OpR_assign rfl is_rfl)
      | (apply as_binOp; exact OpR_ibin rfl rfl rfl is_rfl)
      | (apply as_pick; exact OpR_pick_f rfl gb rfl is_rfl)); first | (exact rfl; exact rfl) | exact rfl)
        | (apply J_seq)
        | (apply J_region)
        | (apply aj_exit; refine J_exit rfl ?_)
        | (apply al_guard; (refine JL_no rfl gb rfl ?_))
        | (apply aj_cond; refine J_dec_f rfl ob ?_))
      refine J_leave Tryz.func12 rfl (.tmp rfl .nil) ⟨rfl, hs.frm.ext⟩
end Go.Eng
/- Referrers: rows that rise, and what is sought in them. -/
namespace Go.Eng
open Go.Proofs
set_option linter.unusedSimpArgs false
set_option linter.unusedVariables false
/-- A row rises by a compare. -/
def risesB {α : Type} (f : α → α → Int) (l : List α) : Bool := (List.range l.length).all fun i => decide (i = 0) || (match l[i - 1]?, l[i]? with | some x, some y => decide (f x y < 0) | _, _ => true)
theorem rises_iff {α : Type} {f : α → α → Int} {l : List α} : risesB f l = true ↔ ∀ i x y, l[i]? = some x → l[i + 1]? = some y → f x y < 0 := by
  unfold risesB
  rw [List.all_eq_true]
  constructor
  · intro h i x y hx hy
    have h1 := h (i + 1) (List.mem_range.2 (List.getElem?_eq_some_iff.1 hy).1)
    rw [Nat.add_sub_cancel, hx, hy] at h1
    simpa using h1
  · intro h i hi
    rw [List.mem_range] at hi
    cases i with
    | zero => rfl
    | succ i =>
      have hy : l[i + 1]? = some (l[i + 1]'hi) := List.getElem?_eq_getElem hi
      have hx : l[i]? = some (l[i]'(by omega)) := List.getElem?_eq_getElem (by omega)
      rw [Nat.add_sub_cancel, hx, hy]
      simpa using h i _ _ hx hy
theorem rises_false {α : Type} {f : α → α → Int} {l : List α} {i : Nat} {x y : α} (hx : l[i]? = some x) (hy : l[i + 1]? = some y) (h : ¬ f x y < 0) : risesB f l = false := by
  cases e : risesB f l with
  | false => rfl
  | true => exact absurd (rises_iff.1 e i x y hx hy) h
theorem pairwise_adj {α : Type} {lt : α → α → Prop} (tr : ∀ {a b c}, lt a b → lt b c → lt a c) : ∀ {l : List α}, (∀ i x y, l[i]? = some x → l[i + 1]? = some y → lt x y) → l.Pairwise lt
  | [], _ => List.Pairwise.nil
  | [x], _ => by simp
  | x :: y :: l, h => by
    have ih : (y :: l).Pairwise lt   := pairwise_adj (lt := lt) tr fun i a b ha hb => h (i + 1) a b ha hb
    refine List.pairwise_cons.2 ⟨fun z hz => ?_, ih⟩
    have hxy := h 0 x y rfl rfl
    rcases List.mem_cons.1 hz with e | e
    · rw [e]; exact hxy
    · exact tr hxy ((List.pairwise_cons.1 ih).1 z e)
theorem adj_pairwise {α : Type} {lt : α → α → Prop} {l : List α} (h : l.Pairwise lt) {i j : Nat} {x y : α} (hx : l[i]? = some x) (hy : l[j]? = some y) (hij : i < j) : lt x y := by
  obtain ⟨h1, e1⟩ := List.getElem?_eq_some_iff.1 hx
  obtain ⟨h2, e2⟩ := List.getElem?_eq_some_iff.1 hy
  rw [← e1, ← e2]
  exact List.pairwise_iff_getElem.1 h i j h1 h2 hij
theorem risesR {l : List RH} : risesB (fun a b => cmpI a.1 b.1) l = true ↔ risingR l := by
  rw [rises_iff]
  constructor
  · intro h; exact pairwise_adj (lt := fun a b : RH => a.1 < b.1) (fun h1 h2 => Int.lt_trans h1 h2) fun i x y hx hy => cmpI_neg.1 (h i x y hx hy)
  · intro h i x y hx hy; exact cmpI_neg.2 (adj_pairwise h hx hy (Nat.lt_succ_self i))
theorem risesH {l : List HH} : risesB cmpH l = true ↔ sortedH l := by
  rw [rises_iff]
  constructor
  · intro h; exact pairwise_adj (lt := fun a b : HH => aheadH a b = true) (fun h1 h2 => ahead_trans h1 h2) fun i x y hx hy => cmpH_neg.1 (h i x y hx hy)
  · intro h i x y hx hy; exact cmpH_neg.2 (adj_pairwise h hx hy (Nat.lt_succ_self i))
/-- What a search compares, by place. -/
def atR (l : List RH) (n : Int) (i : Nat) : Int := match l[i]? with | some r => cmpI r.1 n | none => 1
def atH (l : List HH) (h : HH) (i : Nat) : Int := match l[i]? with | some x => cmpH x h | none => 1
theorem atR_some {l : List RH} {n : Int} {i : Nat} {r : RH} (h : l[i]? = some r) : atR l n i = cmpI r.1 n := by unfold atR; rw [h]
theorem atH_some {l : List HH} {n : HH} {i : Nat} {r : HH} (h : l[i]? = some r) : atH l n i = cmpH r n := by unfold atH; rw [h]
attribute [local irreducible] Hold J JL JD JX JXat OpR OpG Ret RetV Is Blk Row MapC
set_option maxRecDepth 100000
set_option maxHeartbeats 1000000
theorem rcheck1_r (w : World) (r q : RRef) : Ret Tryz.prog 147 #[.agg (cRef r).toArray, .agg (cRef q).toArray] w fun v w' => v = .int .i64 (cmpI r.1 q.1) ∧ Ext w w' := by
  refine Ret_of (l := [_, _]) Tryz.func147 rfl Tryz.ntmps147 (by simp) ?_
  have hs := St.init w
  repeat' (first
    | ((apply al_call 148; refine JL_o (by exact OpR_callF en148 rfl (comparei_r _ r.1 q.1)) rfl rfl ?_; rintro _ _ ⟨rfl, hE⟩; have hs := hs.ext hE; (try simp only [List.cons_append, List.nil_append] at hs)))
    | (apply JL_nil)
    | ((apply JL_pure); (first
      | (apply as_assign; exact OpR_assign rfl is_rfl)
      | (apply as_fieldAddr; exact OpR_fieldAddr0 rfl rfl is_rfl)
      | (apply as_load; exact OpR_load' hs rfl rfl is_rfl)); first | (exact rfl; exact rfl) | exact rfl)
    | (apply J_seq)
    | (apply J_region)
    | (apply al_none (t := 2); refine JL_o (by apply as_box; exact OpR_box' hs rfl) rfl rfl ?_; rintro _ _ ⟨b2, rfl, hb2, hs, hE⟩)
    | (apply al_none (t := 3); refine JL_o (by apply as_box; exact OpR_box' hs rfl) rfl rfl ?_; rintro _ _ ⟨b3, rfl, hb3, hs, hE⟩))
  refine J_leave Tryz.func147 rfl (.tmp rfl .nil) ⟨rfl, hs.frm.ext⟩
theorem rfind1_r (w : World) (r : RRef) (n : Int) : Ret Tryz.prog 207 #[.agg (cRef r).toArray, .int .i64 n] w fun v w' => v = .int .i64 (cmpI r.1 n) ∧ Ext w w' := by
  refine Ret_of (l := [_, _]) Tryz.func207 rfl Tryz.ntmps207 (by simp) ?_
  have hs := St.init w
  repeat' (first
    | ((apply al_call 148; refine JL_o (by exact OpR_callF en148 rfl (comparei_r _ r.1 n)) rfl rfl ?_; rintro _ _ ⟨rfl, hE⟩; have hs := hs.ext hE; (try simp only [List.cons_append, List.nil_append] at hs)))
    | (apply JL_nil)
    | ((apply JL_pure); (first
      | (apply as_move; exact OpR_move rfl is_rfl)
      | (apply as_assign; exact OpR_assign rfl is_rfl)
      | (apply as_fieldAddr; exact OpR_fieldAddr0 rfl rfl is_rfl)
      | (apply as_load; exact OpR_load' hs rfl rfl is_rfl)); first | (exact rfl; exact rfl) | exact rfl)
    | (apply J_seq)
    | (apply J_region)
    | (apply al_none (t := 2); refine JL_o (by apply as_box; exact OpR_box' hs rfl) rfl rfl ?_; rintro _ _ ⟨b2, rfl, hb2, hs, hE⟩))
  refine J_leave Tryz.func207 rfl (.tmp rfl .nil) ⟨rfl, hs.frm.ext⟩
theorem risR_r (w : World) (a : Option Addr) (n c : Nat) (l : List RH) (h : Sl dRef All w a n c l) :
    Ret Tryz.prog 146 #[.slice a n c, .func (.func 147) #[] #[]] w fun v w' => v = .bool (risesB (fun a b => cmpI a.1 b.1) l) ∧ Ext w w' := by
  refine Ret_of (l := [_, _]) Tryz.func146 rfl Tryz.ntmps146 (by simp) ?_
  have hs := St.init w
  have hl := h.len
  obtain ⟨rs, hr, hm⟩ := Sl.raw (D := rawRef) h
  have hmx : n ≤ 9223372036854775807 := by have h1 := h.le; have h2 := h.cap; unfold maxLen at h2; omega
  repeat' (first
    | (apply JL_nil)
    | ((apply JL_pure); (first
      | (apply as_move; exact OpR_move rfl is_rfl)
      | (apply as_assign; exact OpR_assign rfl is_rfl)
      | (apply as_b_len; exact OpR_len rfl is_rfl)); first | (exact rfl; exact rfl) | exact rfl)
    | (apply J_seq)
    | (apply J_region)
    | (apply J_block))
  refine J_loopK (α := Nat) [(0, _), (1, _), (7, _)] (fun k => [(8, .int .i64 k)]) (fun k w' => St w NoF w' [] ∧ k ≤ n ∧ ∀ i x y, i + 1 < k → l[i]? = some x → l[i + 1]? = some y → cmpI x.1 y.1 < 0) (fun k => n - k) 0 ⟨hs, Nat.zero_le _, (fun i x y hi => by omega)⟩ (by repeat' (first | exact trivial | exact rfl | apply And.intro)) ?_
  rintro k w2 ⟨hs1, hk, hri⟩ ih
  have hs : St w NoF w2 [] := hs1
  by_cases hlt : k < n
  · obtain ⟨p, o, rfl⟩ := hr.sl.addr (by omega)
    have hs : St w NoF w2 [] := hs1
    by_cases h0 : k = 0
    · subst h0
      repeat' (first
        | (apply JL_nil)
        | ((first | (apply JL_pure) | (apply JX_f; exact rfl; intro W X hs)); (first
      | (apply as_move; exact OpR_move rfl is_rfl)
      | (apply as_assign; exact OpR_assign rfl is_rfl)
      | (apply as_add; exact OpR_addn rfl rfl (by omega) (by first | (simp only [Int.reduceAdd]; exact rfl) | exact rfl) is_rfl)
      | (apply as_binOp; exact OpR_ibin rfl rfl rfl is_rfl)
      | (apply as_pick; exact OpR_pick_f rfl gb rfl is_rfl)); first | (exact rfl; exact rfl) | exact rfl)
        | (apply J_seq)
        | (apply J_region)
        | (apply J_block)
        | (apply J_inBlock)
        | (apply J_skip)
        | (apply aj_cond; first | refine J_dec_t rfl ob ?_ | refine J_cond_f rfl gb ?_)
        | (apply aj_draw; (refine J_drawX (id := 4) [0, 1, 3, 7, 7, 7, 39, 119, 247, 7, 7, 1543, 3591, 8191, 16383, 32767] [(0, 0), (1, 0), (2, 0), (3, 0), (4, 0), (5, 0), (6, 0), (7, 0), (8, 0), (9, 0), (10, 0), (11, 0), (12, 0), (13, 1), (14, 0), (15, 0)] [] hs mixed (by kernel_rfl) (by kernel_rfl) (by kernel_rfl) (by kernel_rfl) (by kernel_rfl) ?_))
        | (refine JX_done (fun W hs => ?_))
        | (refine JX_f_off rfl rfl gb rfl ?_)
        | (refine JX_c_off rfl rfl gb rfl ?_)
        | (apply JD_done))
      refine ih 1 _ _ ⟨hs, by omega, (fun i x y hi => by omega)⟩ (by omega) (by repeat' (first | exact trivial | exact rfl | apply And.intro))
    · obtain ⟨j, rfl⟩ : ∃ j, k = j + 1 := ⟨k - 1, by omega⟩
      have hx : l[j]? = some (l[j]'(by omega)) := List.getElem?_eq_getElem (by omega)
      have hy : l[j + 1]? = some (l[j + 1]'(by omega)) := List.getElem?_eq_getElem (by omega)
      obtain ⟨x, hxd⟩ : ∃ x, x = l[j]'(by omega) := ⟨_, rfl⟩
      obtain ⟨y, hyd⟩ : ∃ y, y = l[j + 1]'(by omega) := ⟨_, rfl⟩
      rw [← hxd] at hx
      rw [← hyd] at hy
      obtain ⟨r, hrx, e1, e2⟩ := hm.get hx
      obtain ⟨q, hqy, e3, e4⟩ := hm.get hy
      have e1 : r.1 = x.1 := e1
      have e3 : q.1 = y.1 := e3
      obtain ⟨cc, hcc⟩ : ∃ cc, cc = cmpI r.1 q.1 := ⟨_, rfl⟩
      have hcc2 : cc = cmpI x.1 y.1 := by rw [hcc, e1, e3]
      by_cases hc : cc < 0
      · repeat' (first
          | ((apply ax_c; apply JX_c_on (t := 24); exact rfl; exact rfl; exact gb; (intro W X hN hs; exact OpR_callV rfl rfl (Ret.value (cap := #[]) en147 (rcheck1_r _ r q))); (rintro _ _ _ _ ⟨rfl, hE⟩; first | exact Ext.rl hE | exact Ext.rl (Fresh.ext hf)); exact rfl; rintro W X _ _ hN hs ⟨rfl, hE⟩; rw [← hcc]; have hs := hs.ext hE; (try simp only [List.cons_append, List.nil_append] at hs); refine JX.at hs ?_))
          | (apply JL_nil)
          | ((first | (apply JL_pure) | (apply JX_f; exact rfl; intro W X hs) | (apply JX_f_on; exact rfl; exact rfl; exact gb; intro W X hs)); (first
      | (apply as_load; first | exact OpR_load_el (i := j) (hr.st hs) hrx rfl (by rw [show ((j + 1 : Nat) : Int) - 1 = (j : Int) by omega]; rfl) is_rfl | exact OpR_load_el (i := j + 1) (hr.st hs) hqy rfl rfl is_rfl)
      | (apply as_move; exact OpR_move rfl is_rfl)
      | (apply as_assign; exact OpR_assign rfl is_rfl)
      | (apply as_add; exact OpR_addn rfl rfl (by omega) (by first | (simp only [Int.reduceAdd]; exact rfl) | exact rfl) is_rfl)
      | (apply as_sub; exact OpR_sub rfl rfl (by omega) is_rfl)
      | (apply as_binOp; exact OpR_ibin rfl rfl rfl is_rfl)
      | (apply as_pick; exact OpR_pick_t rfl gb rfl is_rfl)
      | (apply as_indexAddr; exact OpR_indexAddr rfl rfl (by omega) (by omega) is_rfl)); first | (exact rfl; exact rfl) | exact rfl)
          | (apply J_seq)
          | (apply J_region)
          | (apply J_block)
          | (apply J_inBlock)
          | (apply J_skip)
          | (apply aj_cond; first | refine J_dec_t rfl ob ?_ | refine J_dec_f rfl ob ?_)
          | (apply aj_draw; (refine J_drawX (id := 4) [0, 1, 3, 7, 7, 7, 39, 119, 247, 7, 7, 1543, 3591, 8191, 16383, 32767] [(0, 0), (1, 0), (2, 0), (3, 0), (4, 0), (5, 0), (6, 0), (7, 0), (8, 0), (9, 0), (10, 0), (11, 0), (12, 0), (13, 1), (14, 0), (15, 0)] [] hs mixed (by kernel_rfl) (by kernel_rfl) (by kernel_rfl) (by kernel_rfl) (by kernel_rfl) ?_))
          | (refine JX_done (fun W hs => ?_))
          | (apply JD_done))
        refine ih (j + 1 + 1) _ _ ⟨hs, hlt, fun i x' y' hi hx' hy' => ?_⟩ (by omega) (by repeat' (first | exact trivial | exact rfl | apply And.intro))
        by_cases hij : i = j
        · subst hij
          rw [hx] at hx'; rw [hy] at hy'
          cases hx'; cases hy'
          rw [← hcc2]; exact hc
        · exact hri i x' y' (by omega) hx' hy'
      · repeat' (first
          | ((apply ax_c; apply JX_c_on (t := 24); exact rfl; exact rfl; exact gb; (intro W X hN hs; exact OpR_callV rfl rfl (Ret.value (cap := #[]) en147 (rcheck1_r _ r q))); (rintro _ _ _ _ ⟨rfl, hE⟩; first | exact Ext.rl hE | exact Ext.rl (Fresh.ext hf)); exact rfl; rintro W X _ _ hN hs ⟨rfl, hE⟩; rw [← hcc]; have hs := hs.ext hE; (try simp only [List.cons_append, List.nil_append] at hs); refine JX.at hs ?_))
          | (apply JL_nil)
          | ((first | (apply JL_pure) | (apply JX_f; exact rfl; intro W X hs) | (apply JX_f_on; exact rfl; exact rfl; exact gb; intro W X hs)); (first
      | (apply as_load; first | exact OpR_load_el (i := j) (hr.st hs) hrx rfl (by rw [show ((j + 1 : Nat) : Int) - 1 = (j : Int) by omega]; rfl) is_rfl | exact OpR_load_el (i := j + 1) (hr.st hs) hqy rfl rfl is_rfl)
      | (apply as_move; exact OpR_move rfl is_rfl)
      | (apply as_assign; exact OpR_assign rfl is_rfl)
      | (apply as_sub; exact OpR_sub rfl rfl (by omega) is_rfl)
      | (apply as_binOp; exact OpR_ibin rfl rfl rfl is_rfl)
      | (apply as_pick; exact OpR_pick_t rfl gb rfl is_rfl)
      | (apply as_indexAddr; exact OpR_indexAddr rfl rfl (by omega) (by omega) is_rfl)); first | (exact rfl; exact rfl) | exact rfl)
          | (apply J_seq)
          | (apply J_region)
          | (apply J_block)
          | (apply J_skip)
          | (apply aj_cond; refine J_dec_t rfl ob ?_)
          | (apply aj_draw; (refine J_drawX (id := 4) [0, 1, 3, 7, 7, 7, 39, 119, 247, 7, 7, 1543, 3591, 8191, 16383, 32767] [(0, 0), (1, 0), (2, 0), (3, 0), (4, 0), (5, 0), (6, 0), (7, 0), (8, 0), (9, 0), (10, 0), (11, 0), (12, 0), (13, 1), (14, 0), (15, 0)] [] hs mixed (by kernel_rfl) (by kernel_rfl) (by kernel_rfl) (by kernel_rfl) (by kernel_rfl) ?_))
          | (refine JX_done (fun W hs => ?_))
          | (apply JD_done))
        refine J_leave Tryz.func146 rfl (.tmp rfl .nil) ⟨by rw [rises_false hx hy (by rw [← hcc2]; exact hc)]; rfl, hs.frm.ext⟩
  · repeat' (first
      | (apply JL_nil)
      | ((apply JL_pure); (first
      | (apply as_assign; exact OpR_assign rfl is_rfl)
      | (apply as_binOp; exact OpR_ibin rfl rfl rfl is_rfl)); first | (exact rfl; exact rfl) | exact rfl)
      | (apply J_seq)
      | (apply J_region)
      | (apply aj_exit; refine J_exit rfl ?_)
      | (apply aj_cond; refine J_dec_f rfl ob ?_))
    refine J_leave Tryz.func146 rfl (.tmp rfl .nil) ⟨by rw [rises_iff.2 (fun i x y hx hy => hri i x y (by have := (List.getElem?_eq_some_iff.1 hy).1; omega) hx hy)]; rfl, hs.frm.ext⟩
theorem risH_r (w : World) (a : Option Addr) (n c : Nat) (l : List HH) (h : Sl dHeld All w a n c l) :
    Ret Tryz.prog 149 #[.slice a n c, .func (.func 77) #[] #[]] w fun v w' => v = .bool (risesB cmpH l) ∧ Ext w w' := by
  refine Ret_of (l := [_, _]) Tryz.func149 rfl Tryz.ntmps149 (by simp) ?_
  have hs := St.init w
  have hl := h.len
  have hlo := sl_okH h
  have hmx : n ≤ 9223372036854775807 := by have h1 := h.le; have h2 := h.cap; unfold maxLen at h2; omega
  repeat' (first
    | (apply JL_nil)
    | ((apply JL_pure); (first
      | (apply as_move; exact OpR_move rfl is_rfl)
      | (apply as_assign; exact OpR_assign rfl is_rfl)
      | (apply as_b_len; exact OpR_len rfl is_rfl)); first | (exact rfl; exact rfl) | exact rfl)
    | (apply J_seq)
    | (apply J_region)
    | (apply J_block))
  refine J_loopK (α := Nat) [(0, _), (1, _), (7, _)] (fun k => [(8, .int .i64 k)]) (fun k w' => St w NoF w' [] ∧ k ≤ n ∧ ∀ i x y, i + 1 < k → l[i]? = some x → l[i + 1]? = some y → cmpH x y < 0) (fun k => n - k) 0 ⟨hs, Nat.zero_le _, (fun i x y hi => by omega)⟩ (by repeat' (first | exact trivial | exact rfl | apply And.intro)) ?_
  rintro k w2 ⟨hs1, hk, hri⟩ ih
  have hs : St w NoF w2 [] := hs1
  by_cases hlt : k < n
  · obtain ⟨p, o, rfl⟩ := h.sl.addr (by omega)
    have hs : St w NoF w2 [] := hs1
    by_cases h0 : k = 0
    · subst h0
      repeat' (first
        | (apply JL_nil)
        | ((first | (apply JL_pure) | (apply JX_f; exact rfl; intro W X hs)); (first
      | (apply as_move; exact OpR_move rfl is_rfl)
      | (apply as_assign; exact OpR_assign rfl is_rfl)
      | (apply as_add; exact OpR_addn rfl rfl (by omega) (by first | (simp only [Int.reduceAdd]; exact rfl) | exact rfl) is_rfl)
      | (apply as_binOp; exact OpR_ibin rfl rfl rfl is_rfl)
      | (apply as_pick; exact OpR_pick_f rfl gb rfl is_rfl)); first | (exact rfl; exact rfl) | exact rfl)
        | (apply J_seq)
        | (apply J_region)
        | (apply J_block)
        | (apply J_inBlock)
        | (apply J_skip)
        | (apply aj_cond; first | refine J_dec_t rfl ob ?_ | refine J_cond_f rfl gb ?_)
        | (apply aj_draw; (refine J_drawX (id := 4) [0, 1, 3, 7, 7, 7, 39, 119, 247, 7, 7, 1543, 3591, 8191, 16383, 32767] [(0, 0), (1, 0), (2, 0), (3, 0), (4, 0), (5, 0), (6, 0), (7, 0), (8, 0), (9, 0), (10, 0), (11, 0), (12, 0), (13, 1), (14, 0), (15, 0)] [] hs mixed (by kernel_rfl) (by kernel_rfl) (by kernel_rfl) (by kernel_rfl) (by kernel_rfl) ?_))
        | (refine JX_done (fun W hs => ?_))
        | (refine JX_f_off rfl rfl gb rfl ?_)
        | (refine JX_c_off rfl rfl gb rfl ?_)
        | (apply JD_done))
      refine ih 1 _ _ ⟨hs, by omega, (fun i x y hi => by omega)⟩ (by omega) (by repeat' (first | exact trivial | exact rfl | apply And.intro))
    · obtain ⟨j, rfl⟩ : ∃ j, k = j + 1 := ⟨k - 1, by omega⟩
      have hx : l[j]? = some (l[j]'(by omega)) := List.getElem?_eq_getElem (by omega)
      have hy : l[j + 1]? = some (l[j + 1]'(by omega)) := List.getElem?_eq_getElem (by omega)
      obtain ⟨x, hxd⟩ : ∃ x, x = l[j]'(by omega) := ⟨_, rfl⟩
      obtain ⟨y, hyd⟩ : ∃ y, y = l[j + 1]'(by omega) := ⟨_, rfl⟩
      rw [← hxd] at hx
      rw [← hyd] at hy
      obtain ⟨cc, hcc⟩ : ∃ cc, cc = cmpH x y := ⟨_, rfl⟩
      by_cases hc : cc < 0
      · repeat' (first
          | ((apply ax_c; apply JX_c_on (t := 24); exact rfl; exact rfl; exact gb; (intro W X hN hs; exact OpR_callV rfl rfl (Ret.value (cap := #[]) en77 (hcompare_r _ x y (hlo x (List.mem_of_getElem? hx)) (hlo y (List.mem_of_getElem? hy))))); (rintro _ _ _ _ ⟨rfl, hE⟩; first | exact Ext.rl hE | exact Ext.rl (Fresh.ext hf)); exact rfl; rintro W X _ _ hN hs ⟨rfl, hE⟩; rw [← hcc]; have hs := hs.ext hE; (try simp only [List.cons_append, List.nil_append] at hs); refine JX.at hs ?_))
          | (apply JL_nil)
          | ((first | (apply JL_pure) | (apply JX_f; exact rfl; intro W X hs) | (apply JX_f_on; exact rfl; exact rfl; exact gb; intro W X hs)); (first
      | (apply as_load; first | exact OpR_load_el (i := j) (h.st hs) hx rfl (by rw [show ((j + 1 : Nat) : Int) - 1 = (j : Int) by omega]; rfl) is_rfl | exact OpR_load_el (i := j + 1) (h.st hs) hy rfl rfl is_rfl)
      | (apply as_move; exact OpR_move rfl is_rfl)
      | (apply as_assign; exact OpR_assign rfl is_rfl)
      | (apply as_add; exact OpR_addn rfl rfl (by omega) (by first | (simp only [Int.reduceAdd]; exact rfl) | exact rfl) is_rfl)
      | (apply as_sub; exact OpR_sub rfl rfl (by omega) is_rfl)
      | (apply as_binOp; exact OpR_ibin rfl rfl rfl is_rfl)
      | (apply as_pick; exact OpR_pick_t rfl gb rfl is_rfl)
      | (apply as_indexAddr; exact OpR_indexAddr rfl rfl (by omega) (by omega) is_rfl)); first | (exact rfl; exact rfl) | exact rfl)
          | (apply J_seq)
          | (apply J_region)
          | (apply J_block)
          | (apply J_inBlock)
          | (apply J_skip)
          | (apply aj_cond; first | refine J_dec_t rfl ob ?_ | refine J_dec_f rfl ob ?_)
          | (apply aj_draw; (refine J_drawX (id := 4) [0, 1, 3, 7, 7, 7, 39, 119, 247, 7, 7, 1543, 3591, 8191, 16383, 32767] [(0, 0), (1, 0), (2, 0), (3, 0), (4, 0), (5, 0), (6, 0), (7, 0), (8, 0), (9, 0), (10, 0), (11, 0), (12, 0), (13, 1), (14, 0), (15, 0)] [] hs mixed (by kernel_rfl) (by kernel_rfl) (by kernel_rfl) (by kernel_rfl) (by kernel_rfl) ?_))
          | (refine JX_done (fun W hs => ?_))
          | (apply JD_done))
        refine ih (j + 1 + 1) _ _ ⟨hs, hlt, fun i x' y' hi hx' hy' => ?_⟩ (by omega) (by repeat' (first | exact trivial | exact rfl | apply And.intro))
        by_cases hij : i = j
        · subst hij
          rw [hx] at hx'; rw [hy] at hy'
          cases hx'; cases hy'
          rw [← hcc]; exact hc
        · exact hri i x' y' (by omega) hx' hy'
      · repeat' (first
          | ((apply ax_c; apply JX_c_on (t := 24); exact rfl; exact rfl; exact gb; (intro W X hN hs; exact OpR_callV rfl rfl (Ret.value (cap := #[]) en77 (hcompare_r _ x y (hlo x (List.mem_of_getElem? hx)) (hlo y (List.mem_of_getElem? hy))))); (rintro _ _ _ _ ⟨rfl, hE⟩; first | exact Ext.rl hE | exact Ext.rl (Fresh.ext hf)); exact rfl; rintro W X _ _ hN hs ⟨rfl, hE⟩; rw [← hcc]; have hs := hs.ext hE; (try simp only [List.cons_append, List.nil_append] at hs); refine JX.at hs ?_))
          | (apply JL_nil)
          | ((first | (apply JL_pure) | (apply JX_f; exact rfl; intro W X hs) | (apply JX_f_on; exact rfl; exact rfl; exact gb; intro W X hs)); (first
      | (apply as_load; first | exact OpR_load_el (i := j) (h.st hs) hx rfl (by rw [show ((j + 1 : Nat) : Int) - 1 = (j : Int) by omega]; rfl) is_rfl | exact OpR_load_el (i := j + 1) (h.st hs) hy rfl rfl is_rfl)
      | (apply as_move; exact OpR_move rfl is_rfl)
      | (apply as_assign; exact OpR_assign rfl is_rfl)
      | (apply as_sub; exact OpR_sub rfl rfl (by omega) is_rfl)
      | (apply as_binOp; exact OpR_ibin rfl rfl rfl is_rfl)
      | (apply as_pick; exact OpR_pick_t rfl gb rfl is_rfl)
      | (apply as_indexAddr; exact OpR_indexAddr rfl rfl (by omega) (by omega) is_rfl)); first | (exact rfl; exact rfl) | exact rfl)
          | (apply J_seq)
          | (apply J_region)
          | (apply J_block)
          | (apply J_skip)
          | (apply aj_cond; refine J_dec_t rfl ob ?_)
          | (apply aj_draw; (refine J_drawX (id := 4) [0, 1, 3, 7, 7, 7, 39, 119, 247, 7, 7, 1543, 3591, 8191, 16383, 32767] [(0, 0), (1, 0), (2, 0), (3, 0), (4, 0), (5, 0), (6, 0), (7, 0), (8, 0), (9, 0), (10, 0), (11, 0), (12, 0), (13, 1), (14, 0), (15, 0)] [] hs mixed (by kernel_rfl) (by kernel_rfl) (by kernel_rfl) (by kernel_rfl) (by kernel_rfl) ?_))
          | (refine JX_done (fun W hs => ?_))
          | (apply JD_done))
        refine J_leave Tryz.func149 rfl (.tmp rfl .nil) ⟨by rw [rises_false hx hy (by rw [← hcc]; exact hc)]; rfl, hs.frm.ext⟩
  · repeat' (first
      | (apply JL_nil)
      | ((apply JL_pure); (first
      | (apply as_assign; exact OpR_assign rfl is_rfl)
      | (apply as_binOp; exact OpR_ibin rfl rfl rfl is_rfl)); first | (exact rfl; exact rfl) | exact rfl)
      | (apply J_seq)
      | (apply J_region)
      | (apply aj_exit; refine J_exit rfl ?_)
      | (apply aj_cond; refine J_dec_f rfl ob ?_))
    refine J_leave Tryz.func149 rfl (.tmp rfl .nil) ⟨by rw [rises_iff.2 (fun i x y hx hy => hri i x y (by have := (List.getElem?_eq_some_iff.1 hy).1; omega) hx hy)]; rfl, hs.frm.ext⟩
theorem bsr_r (w : World) (a : Option Addr) (n c : Nat) (l : List RH) (x : Int) (h : Sl dRef All w a n c l) (hn : n ≤ 1000000000) :
    Ret Tryz.prog 206 #[.slice a n c, .int .i64 x, .func (.func 207) #[] #[]] w fun v w' => ∃ i : Nat, Cut (atR l x) n i ∧ v = .tuple #[.int .i64 i, .bool (decide (i < n) && decide (atR l x i = 0))] ∧ Ext w w' := by
  refine Ret_of (l := [_, _, _]) Tryz.func206 rfl Tryz.ntmps206 (by simp) ?_
  have hs := St.init w
  have hl := h.len
  obtain ⟨rs, hr, hm⟩ := Sl.raw (D := rawRef) h
  repeat' (first
    | (apply JL_nil)
    | ((apply JL_pure); (first
      | (apply as_move; exact OpR_move rfl is_rfl)
      | (apply as_assign; exact OpR_assign rfl is_rfl)
      | (apply as_b_len; exact OpR_len rfl is_rfl)); first | (exact rfl; exact rfl) | exact rfl)
    | (apply J_seq)
    | (apply J_region)
    | (apply J_block))
  refine J_loopK (α := Nat × Nat) [(0, _), (1, _), (2, _), (8, _)] (fun g => [(9, .int .i64 g.1), (10, .int .i64 g.2)]) (fun g w' => St w NoF w' [] ∧ g.1 ≤ g.2 ∧ g.2 ≤ n ∧ (0 < g.1 → atR l x (g.1 - 1) < 0) ∧ (g.2 < n → 0 ≤ atR l x g.2)) (fun g => g.2 - g.1) (0, n) ⟨hs, Nat.zero_le _, Nat.le_refl _, (fun h0 => absurd h0 (Nat.lt_irrefl 0)), (fun h0 => absurd h0 (Nat.lt_irrefl n))⟩ (by repeat' (first | exact trivial | exact rfl | apply And.intro)) ?_
  rintro ⟨i, j⟩ w2 ⟨hs1, hij, hjn, hlo_, hhi⟩ ih
  dsimp only at hs1 hij hjn hlo_ hhi ih ⊢
  by_cases hlt : i < j
  · obtain ⟨p, o, rfl⟩ := hr.sl.addr (by omega)
    have hs : St w NoF w2 [] := hs1
    obtain ⟨m, hm_⟩ : ∃ m, m = (i + j) / 2 := ⟨_, rfl⟩
    have hmi : i ≤ m := by omega
    have hmj : m < j := by omega
    have hmv : ((i : Int) + (j : Int)) / 2 = (m : Int) := by omega
    have hy : l[m]? = some (l[m]'(by omega)) := List.getElem?_eq_getElem (by omega)
    obtain ⟨y, hyd⟩ : ∃ y, y = l[m]'(by omega) := ⟨_, rfl⟩
    rw [← hyd] at hy
    obtain ⟨r, hry, e1, e2⟩ := hm.get hy
    have e1 : r.1 = y.1 := e1
    obtain ⟨cc, hcc⟩ : ∃ cc, cc = cmpI r.1 x := ⟨_, rfl⟩
    have hat : atR l x m = cc := by rw [atR_some hy, hcc, e1]
    by_cases hc : cc < 0
    · repeat' (first
        | ((apply al_none (t := 30); refine JL_o (OpR_callV rfl rfl (Ret.value (cap := #[]) en207 (rfind1_r _ r x))) rfl rfl ?_; rintro _ _ ⟨rfl, hE⟩; rw [← hcc]; have hs := hs.ext hE; (try simp only [List.cons_append, List.nil_append] at hs)))
        | (apply JL_nil)
        | ((apply JL_pure); (first
      | (apply as_load; exact OpR_load_el (i := m) (hr.st hs) hry rfl rfl is_rfl)
      | (apply as_binOp; exact OpR_shr (n := 1) rfl rfl (by decide) rfl (by rw [show ((i : Int) + (j : Int)) / 2 ^ 1 = (m : Int) from hmv]; exact is_rfl))
      | (apply as_move; exact OpR_move rfl is_rfl)
      | (apply as_assign; exact OpR_assign rfl is_rfl)
      | (apply as_add; exact OpR_addn rfl rfl (by omega) (by first | (simp only [Int.reduceAdd]; exact rfl) | exact rfl) is_rfl)
      | (apply as_binOp; exact OpR_ibin rfl rfl rfl is_rfl)
      | (apply as_convert; first | exact OpR_conv_i rfl (by omega) is_rfl | exact OpR_conv_u rfl (by omega) is_rfl)
      | (apply as_indexAddr; exact OpR_indexAddr rfl rfl (by omega) (by omega) is_rfl)); first | (exact rfl; exact rfl) | exact rfl)
        | (apply J_seq)
        | (apply J_region)
        | (apply J_block)
        | (apply J_inBlock)
        | (apply J_skip)
        | (apply aj_cond; refine J_dec_t rfl ob ?_))
      refine ih (m + 1, j) _ _ ⟨hs, by show m + 1 ≤ j; omega, hjn, fun _ => by show atR l x (m + 1 - 1) < 0; rw [Nat.add_sub_cancel, hat]; exact hc, hhi⟩ (by show j - (m + 1) < j - i; omega) (by repeat' (first | exact trivial | exact rfl | apply And.intro))
    · repeat' (first
        | ((apply al_none (t := 30); refine JL_o (OpR_callV rfl rfl (Ret.value (cap := #[]) en207 (rfind1_r _ r x))) rfl rfl ?_; rintro _ _ ⟨rfl, hE⟩; rw [← hcc]; have hs := hs.ext hE; (try simp only [List.cons_append, List.nil_append] at hs)))
        | (apply JL_nil)
        | ((apply JL_pure); (first
      | (apply as_load; exact OpR_load_el (i := m) (hr.st hs) hry rfl rfl is_rfl)
      | (apply as_binOp; exact OpR_shr (n := 1) rfl rfl (by decide) rfl (by rw [show ((i : Int) + (j : Int)) / 2 ^ 1 = (m : Int) from hmv]; exact is_rfl))
      | (apply as_move; exact OpR_move rfl is_rfl)
      | (apply as_assign; exact OpR_assign rfl is_rfl)
      | (apply as_add; exact OpR_addn rfl rfl (by omega) (by first | (simp only [Int.reduceAdd]; exact rfl) | exact rfl) is_rfl)
      | (apply as_binOp; exact OpR_ibin rfl rfl rfl is_rfl)
      | (apply as_convert; first | exact OpR_conv_i rfl (by omega) is_rfl | exact OpR_conv_u rfl (by omega) is_rfl)
      | (apply as_indexAddr; exact OpR_indexAddr rfl rfl (by omega) (by omega) is_rfl)); first | (exact rfl; exact rfl) | exact rfl)
        | (apply J_seq)
        | (apply J_region)
        | (apply J_block)
        | (apply J_inBlock)
        | (apply J_skip)
        | (apply aj_cond; first | refine J_dec_t rfl ob ?_ | refine J_dec_f rfl ob ?_))
      refine ih (i, m) _ _ ⟨hs, hmi, by show m ≤ n; omega, hlo_, fun _ => by show 0 ≤ atR l x m; rw [hat]; omega⟩ (by show m - i < j - i; omega) (by repeat' (first | exact trivial | exact rfl | apply And.intro))
  · have hs : St w NoF w2 [] := hs1
    have hij2 : i = j := by omega
    subst hij2
    have hcut : Cut (atR l x) n i := ⟨hjn, hlo_, hhi⟩
    by_cases hin : i < n
    · obtain ⟨p, o, rfl⟩ := hr.sl.addr (by omega)
      have hs : St w NoF w2 [] := hs1
      have hy : l[i]? = some (l[i]'(by omega)) := List.getElem?_eq_getElem (by omega)
      obtain ⟨y, hyd⟩ : ∃ y, y = l[i]'(by omega) := ⟨_, rfl⟩
      rw [← hyd] at hy
      obtain ⟨r, hry, e1, e2⟩ := hm.get hy
      have e1 : r.1 = y.1 := e1
      obtain ⟨cc, hcc⟩ : ∃ cc, cc = cmpI r.1 x := ⟨_, rfl⟩
      have hat : atR l x i = cc := by rw [atR_some hy, hcc, e1]
      repeat' (first
        | ((apply al_guard; refine JL_o_on (t := 46) rfl gb (OpR_callV rfl rfl (Ret.value (cap := #[]) en207 (rfind1_r _ r x))) rfl rfl ?_; rintro _ _ ⟨rfl, hE⟩; rw [← hcc]; have hs := hs.ext hE; (try simp only [List.cons_append, List.nil_append] at hs)))
        | (apply JL_nil)
        | ((first | (apply JL_pure) | (apply JL_pure_on; exact rfl; exact gb)); (first
      | (apply as_load; exact OpR_load_el (i := i) (hr.st hs) hry rfl rfl is_rfl)
      | (apply as_move; exact OpR_move rfl is_rfl)
      | (apply as_assign; exact OpR_assign rfl is_rfl)
      | (apply as_binOp; exact OpR_ibin rfl rfl rfl is_rfl)
      | (apply as_pick; exact OpR_pick_t rfl gb rfl is_rfl)
      | (apply as_indexAddr; exact OpR_indexAddr rfl rfl (by omega) (by omega) is_rfl)); first | (exact rfl; exact rfl) | exact rfl)
        | (apply J_seq)
        | (apply J_region)
        | (apply aj_exit; refine J_exit rfl ?_)
        | (apply aj_cond; refine J_dec_f rfl ob ?_))
      refine J_leave Tryz.func206 rfl (.tmp rfl (.tmp rfl .nil)) ⟨i, hcut, by rw [hat, decide_eq_true hin]; rfl, hs.frm.ext⟩
    · repeat' (first
        | (apply JL_nil)
        | ((apply JL_pure); (first
      | (apply as_move; exact OpR_move rfl is_rfl)
      | (apply as_assign; exact OpR_assign rfl is_rfl)
      | (apply as_binOp; exact OpR_ibin rfl rfl rfl is_rfl)
      | (apply as_pick; exact OpR_pick_f rfl gb rfl is_rfl)); first | (exact rfl; exact rfl) | exact rfl)
        | (apply J_seq)
        | (apply J_region)
        | (apply aj_exit; refine J_exit rfl ?_)
        | (apply al_guard; (refine JL_no rfl gb rfl ?_))
        | (apply aj_cond; refine J_dec_f rfl ob ?_))
      refine J_leave Tryz.func206 rfl (.tmp rfl (.tmp rfl .nil)) ⟨i, hcut, by rw [decide_eq_false hin]; rfl, hs.frm.ext⟩
theorem bsh_r (w : World) (a : Option Addr) (n c : Nat) (l : List HH) (x : HH) (h : Sl dHeld All w a n c l) (hx : okH x) (hn : n ≤ 1000000000) :
    Ret Tryz.prog 76 #[.slice a n c, .agg (cH x).toArray, .func (.func 77) #[] #[]] w fun v w' => ∃ i : Nat, Cut (atH l x) n i ∧ v = .tuple #[.int .i64 i, .bool (decide (i < n) && decide (atH l x i = 0))] ∧ Ext w w' := by
  refine Ret_of (l := [_, _, _]) Tryz.func76 rfl Tryz.ntmps76 (by simp) ?_
  have hs := St.init w
  have hl := h.len
  have hlo := sl_okH h
  repeat' (first
    | (apply JL_nil)
    | ((apply JL_pure); (first
      | (apply as_move; exact OpR_move rfl is_rfl)
      | (apply as_assign; exact OpR_assign rfl is_rfl)
      | (apply as_b_len; exact OpR_len rfl is_rfl)); first | (exact rfl; exact rfl) | exact rfl)
    | (apply J_seq)
    | (apply J_region)
    | (apply J_block)
    | (apply al_none (t := 4); refine JL_o (by apply as_box; exact OpR_box' hs rfl) rfl rfl ?_; rintro _ _ ⟨b4, rfl, hb4, hs, hE⟩))
  refine J_loopK (α := Nat × Nat) [(0, _), (2, _), (4, _), (8, _)] (fun g => [(9, .int .i64 g.1), (10, .int .i64 g.2)]) (fun g w' => St w NoF w' [Blk b4 (.cells #[.int .i64 x.1, .int .u64 x.2] 31 (0, 0))] ∧ g.1 ≤ g.2 ∧ g.2 ≤ n ∧ (0 < g.1 → atH l x (g.1 - 1) < 0) ∧ (g.2 < n → 0 ≤ atH l x g.2)) (fun g => g.2 - g.1) (0, n) ⟨hs, Nat.zero_le _, Nat.le_refl _, (fun h0 => absurd h0 (Nat.lt_irrefl 0)), (fun h0 => absurd h0 (Nat.lt_irrefl n))⟩ (by repeat' (first | exact trivial | exact rfl | apply And.intro)) ?_
  rintro ⟨i, j⟩ w2 ⟨hs1, hij, hjn, hlo_, hhi⟩ ih
  dsimp only at hs1 hij hjn hlo_ hhi ih ⊢
  by_cases hlt : i < j
  · obtain ⟨p, o, rfl⟩ := h.sl.addr (by omega)
    have hs : St w NoF w2 [_] := hs1
    obtain ⟨m, hm_⟩ : ∃ m, m = (i + j) / 2 := ⟨_, rfl⟩
    have hmi : i ≤ m := by omega
    have hmj : m < j := by omega
    have hmv : ((i : Int) + (j : Int)) / 2 = (m : Int) := by omega
    have hy : l[m]? = some (l[m]'(by omega)) := List.getElem?_eq_getElem (by omega)
    obtain ⟨y, hyd⟩ : ∃ y, y = l[m]'(by omega) := ⟨_, rfl⟩
    rw [← hyd] at hy
    have hyo := hlo y (List.mem_of_getElem? hy)
    obtain ⟨cc, hcc⟩ : ∃ cc, cc = cmpH y x := ⟨_, rfl⟩
    have hat : atH l x m = cc := by rw [atH_some hy, hcc]
    by_cases hc : cc < 0
    · repeat' (first
        | ((apply ax_c; apply JX_c (t := 30); exact rfl; (intro W X hN hs; exact OpR_callV rfl rfl (Ret.value (cap := #[]) en77 (hcompare_r _ y x hyo hx))); (rintro _ _ _ _ ⟨rfl, hE⟩; first | exact Ext.rl hE | exact Ext.rl (Fresh.ext hf)); exact rfl; rintro W X _ _ hN hs ⟨rfl, hE⟩; rw [← hcc]; have hs := hs.ext hE; (try simp only [List.cons_append, List.nil_append] at hs); refine JX.at hs ?_))
        | (apply JL_nil)
        | ((first | (apply JL_pure) | (apply JX_f; exact rfl; intro W X hs)); (first
      | (apply as_load; first | exact OpR_load' hs rfl rfl is_rfl | exact OpR_load_agg' hs rfl is_rfl | exact OpR_load_el (i := m) (h.st hs) hy rfl rfl is_rfl)
      | (apply as_binOp; exact OpR_shr (n := 1) rfl rfl (by decide) rfl (by rw [show ((i : Int) + (j : Int)) / 2 ^ 1 = (m : Int) from hmv]; exact is_rfl))
      | (apply as_move; exact OpR_move rfl is_rfl)
      | (apply as_assign; exact OpR_assign rfl is_rfl)
      | (apply as_add; exact OpR_addn rfl rfl (by omega) (by first | (simp only [Int.reduceAdd]; exact rfl) | exact rfl) is_rfl)
      | (apply as_binOp; exact OpR_ibin rfl rfl rfl is_rfl)
      | (apply as_convert; first | exact OpR_conv_i rfl (by omega) is_rfl | exact OpR_conv_u rfl (by omega) is_rfl)
      | (apply as_indexAddr; exact OpR_indexAddr rfl rfl (by omega) (by omega) is_rfl)); first | (exact rfl; exact rfl) | exact rfl)
        | (apply J_seq)
        | (apply J_region)
        | (apply J_block)
        | (apply J_inBlock)
        | (apply J_skip)
        | (apply aj_cond; refine J_dec_t rfl ob ?_)
        | (apply aj_draw; (refine J_drawX (id := 5) [0, 0, 0, 6, 14, 0, 63, 127] [(0, 0), (1, 0), (2, 0), (3, 0), (4, 0), (5, 0), (6, 1), (7, 0)] [] hs mixed (by kernel_rfl) (by kernel_rfl) (by kernel_rfl) (by kernel_rfl) (by kernel_rfl) ?_))
        | (refine JX_done (fun W hs => ?_))
        | (apply JD_done))
      refine ih (m + 1, j) _ _ ⟨hs, by show m + 1 ≤ j; omega, hjn, fun _ => by show atH l x (m + 1 - 1) < 0; rw [Nat.add_sub_cancel, hat]; exact hc, hhi⟩ (by show j - (m + 1) < j - i; omega) (by repeat' (first | exact trivial | exact rfl | apply And.intro))
    · repeat' (first
        | ((apply ax_c; apply JX_c (t := 30); exact rfl; (intro W X hN hs; exact OpR_callV rfl rfl (Ret.value (cap := #[]) en77 (hcompare_r _ y x hyo hx))); (rintro _ _ _ _ ⟨rfl, hE⟩; first | exact Ext.rl hE | exact Ext.rl (Fresh.ext hf)); exact rfl; rintro W X _ _ hN hs ⟨rfl, hE⟩; rw [← hcc]; have hs := hs.ext hE; (try simp only [List.cons_append, List.nil_append] at hs); refine JX.at hs ?_))
        | (apply JL_nil)
        | ((first | (apply JL_pure) | (apply JX_f; exact rfl; intro W X hs)); (first
      | (apply as_load; first | exact OpR_load' hs rfl rfl is_rfl | exact OpR_load_agg' hs rfl is_rfl | exact OpR_load_el (i := m) (h.st hs) hy rfl rfl is_rfl)
      | (apply as_binOp; exact OpR_shr (n := 1) rfl rfl (by decide) rfl (by rw [show ((i : Int) + (j : Int)) / 2 ^ 1 = (m : Int) from hmv]; exact is_rfl))
      | (apply as_move; exact OpR_move rfl is_rfl)
      | (apply as_assign; exact OpR_assign rfl is_rfl)
      | (apply as_add; exact OpR_addn rfl rfl (by omega) (by first | (simp only [Int.reduceAdd]; exact rfl) | exact rfl) is_rfl)
      | (apply as_binOp; exact OpR_ibin rfl rfl rfl is_rfl)
      | (apply as_convert; first | exact OpR_conv_i rfl (by omega) is_rfl | exact OpR_conv_u rfl (by omega) is_rfl)
      | (apply as_indexAddr; exact OpR_indexAddr rfl rfl (by omega) (by omega) is_rfl)); first | (exact rfl; exact rfl) | exact rfl)
        | (apply J_seq)
        | (apply J_region)
        | (apply J_block)
        | (apply J_inBlock)
        | (apply J_skip)
        | (apply aj_cond; first | refine J_dec_t rfl ob ?_ | refine J_dec_f rfl ob ?_)
        | (apply aj_draw; (refine J_drawX (id := 5) [0, 0, 0, 6, 14, 0, 63, 127] [(0, 0), (1, 0), (2, 0), (3, 0), (4, 0), (5, 0), (6, 1), (7, 0)] [] hs mixed (by kernel_rfl) (by kernel_rfl) (by kernel_rfl) (by kernel_rfl) (by kernel_rfl) ?_))
        | (refine JX_done (fun W hs => ?_))
        | (apply JD_done))
      refine ih (i, m) _ _ ⟨hs, hmi, by show m ≤ n; omega, hlo_, fun _ => by show 0 ≤ atH l x m; rw [hat]; omega⟩ (by show m - i < j - i; omega) (by repeat' (first | exact trivial | exact rfl | apply And.intro))
  · have hs : St w NoF w2 [_] := hs1
    have hij2 : i = j := by omega
    subst hij2
    have hcut : Cut (atH l x) n i := ⟨hjn, hlo_, hhi⟩
    by_cases hin : i < n
    · obtain ⟨p, o, rfl⟩ := h.sl.addr (by omega)
      have hs : St w NoF w2 [_] := hs1
      have hy : l[i]? = some (l[i]'(by omega)) := List.getElem?_eq_getElem (by omega)
      obtain ⟨y, hyd⟩ : ∃ y, y = l[i]'(by omega) := ⟨_, rfl⟩
      rw [← hyd] at hy
      have hyo := hlo y (List.mem_of_getElem? hy)
      obtain ⟨cc, hcc⟩ : ∃ cc, cc = cmpH y x := ⟨_, rfl⟩
      have hat : atH l x i = cc := by rw [atH_some hy, hcc]
      repeat' (first
        | ((apply ax_c; apply JX_c_on (t := 46); exact rfl; exact rfl; exact gb; (intro W X hN hs; exact OpR_callV rfl rfl (Ret.value (cap := #[]) en77 (hcompare_r _ y x hyo hx))); (rintro _ _ _ _ ⟨rfl, hE⟩; first | exact Ext.rl hE | exact Ext.rl (Fresh.ext hf)); exact rfl; rintro W X _ _ hN hs ⟨rfl, hE⟩; rw [← hcc]; have hs := hs.ext hE; (try simp only [List.cons_append, List.nil_append] at hs); refine JX.at hs ?_))
        | (apply JL_nil)
        | ((first | (apply JL_pure) | (apply JX_f; exact rfl; intro W X hs) | (apply JX_f_on; exact rfl; exact rfl; exact gb; intro W X hs)); (first
      | (apply as_load; first | exact OpR_load' hs rfl rfl is_rfl | exact OpR_load_agg' hs rfl is_rfl | exact OpR_load_el (i := i) (h.st hs) hy rfl rfl is_rfl)
      | (apply as_move; exact OpR_move rfl is_rfl)
      | (apply as_assign; exact OpR_assign rfl is_rfl)
      | (apply as_binOp; exact OpR_ibin rfl rfl rfl is_rfl)
      | (apply as_pick; exact OpR_pick_t rfl gb rfl is_rfl)
      | (apply as_indexAddr; exact OpR_indexAddr rfl rfl (by omega) (by omega) is_rfl)); first | (exact rfl; exact rfl) | exact rfl)
        | (apply J_seq)
        | (apply J_region)
        | (apply aj_exit; refine J_exit rfl ?_)
        | (apply aj_cond; refine J_dec_f rfl ob ?_)
        | (apply aj_draw; (refine J_drawX (id := 8) [0, 0, 0, 6, 14, 30, 30, 30, 222, 478, 30, 2046, 4094, 8190, 4095, 32767] [(0, 0), (1, 0), (2, 0), (3, 0), (4, 0), (5, 0), (6, 0), (7, 0), (8, 0), (9, 0), (10, 0), (11, 1), (12, 0), (13, 0), (14, 0), (15, 0)] [] hs mixed (by kernel_rfl) (by kernel_rfl) (by kernel_rfl) (by kernel_rfl) (by kernel_rfl) ?_))
        | (refine JX_done (fun W hs => ?_))
        | (apply JD_done))
      refine J_leave Tryz.func76 rfl (.tmp rfl (.tmp rfl .nil)) ⟨i, hcut, by rw [hat, decide_eq_true hin]; rfl, hs.frm.ext⟩
    · repeat' (first
        | (apply JL_nil)
        | ((first | (apply JL_pure) | (apply JX_f; exact rfl; intro W X hs)); (first
      | (apply as_move; exact OpR_move rfl is_rfl)
      | (apply as_assign; exact OpR_assign rfl is_rfl)
      | (apply as_binOp; exact OpR_ibin rfl rfl rfl is_rfl)
      | (apply as_pick; exact OpR_pick_f rfl gb rfl is_rfl)); first | (exact rfl; exact rfl) | exact rfl)
        | (apply J_seq)
        | (apply J_region)
        | (apply aj_exit; refine J_exit rfl ?_)
        | (apply aj_cond; refine J_dec_f rfl ob ?_)
        | (apply aj_draw; (refine J_drawX (id := 8) [0, 0, 0, 6, 14, 30, 30, 30, 222, 478, 30, 2046, 4094, 8190, 4095, 32767] [(0, 0), (1, 0), (2, 0), (3, 0), (4, 0), (5, 0), (6, 0), (7, 0), (8, 0), (9, 0), (10, 0), (11, 1), (12, 0), (13, 0), (14, 0), (15, 0)] [] hs mixed (by kernel_rfl) (by kernel_rfl) (by kernel_rfl) (by kernel_rfl) (by kernel_rfl) ?_))
        | (refine JX_done (fun W hs => ?_))
        | (refine JX_f_off rfl rfl gb rfl ?_)
        | (refine JX_c_off rfl rfl gb rfl ?_)
        | (apply JD_done))
      refine J_leave Tryz.func76 rfl (.tmp rfl (.tmp rfl .nil)) ⟨i, hcut, by rw [decide_eq_false hin]; rfl, hs.frm.ext⟩
theorem find_r15 (w : World) (a : Option Addr) (n c : Nat) (l : List RH) (x : Int) (h : Sl dRef All w a n c l) (hn : n ≤ 1000000000) :
    Ret Tryz.prog 151 #[.slice a n c, .int .i64 x] w fun v w' => ∃ i : Nat, Cut (atR l x) n i ∧ v = .tuple #[.int .i64 i, .bool (decide (i < n) && decide (atR l x i = 0))] ∧ Ext w w' := by
  refine Ret_of (l := [_, _]) Tryz.func151 rfl Tryz.ntmps151 (by simp) ?_
  have hs := St.init w
  repeat' (first
    | ((apply al_call 206; refine JL_o (by exact OpR_callF en206 rfl (bsr_r _ a n c l x (h.st hs) hn)) rfl rfl ?_; rintro _ _ ⟨i, hcut, rfl, hE⟩; have hs := hs.ext hE; (try simp only [List.cons_append, List.nil_append] at hs)))
    | (apply JL_nil)
    | ((apply JL_pure); (first
      | (apply as_move; exact OpR_move rfl is_rfl)
      | (apply as_assign; exact OpR_assign rfl is_rfl)
      | (apply as_extract; exact OpR_extract rfl rfl is_rfl)); first | (exact rfl; exact rfl) | exact rfl)
    | (apply J_seq)
    | (apply J_region))
  refine J_leave Tryz.func151 rfl (.tmp rfl (.tmp rfl .nil)) ⟨i, hcut, rfl, hs.frm.ext⟩
end Go.Eng
/- Referrers: Check. -/
namespace Go.Eng
open Go.Proofs
set_option linter.unusedSimpArgs false
set_option linter.unusedVariables false
theorem aj_condt (t : Nat) {P : Program} {f : FuncId} {ro : Option Nat} {n : Nat} {R : Value → World → Prop} {k : List Item} {ds : List Deferred} {env : Env} {w : World} {x y : Code} (h : J P f ro n R (.code (.cond (.tmp t) x y) :: k) ds env w) : J P f ro n R (.code (.cond (.tmp t) x y) :: k) ds env w := h
/-- What is asked of one that is held, under r. -/
def HG (l : List RH) (r : RH) (h : HH) : Prop := mayH h = true ∧ mentB h.2 r.1 = true ∧ ∀ n, mentB h.2 n = true → ∃ r' ∈ l, r'.1 = n ∧ h ∈ r'.2
def GoodK (l : List RH) (k : Nat) : Prop := risingR l ∧ ∀ r ∈ l.take k, r.2 ≠ [] ∧ sortedH r.2 ∧ ∀ h ∈ r.2, HG l r h
theorem GoodK.ok {l : List RH} (h : GoodK l l.length) (hm : (firsts l).length ≤ 20000) : OkR l := by
  obtain ⟨h1, h2⟩ := h
  rw [List.take_length] at h2
  exact ⟨h1, fun r hr => (h2 r hr).1, fun r hr => (h2 r hr).2.1, fun r hr x hx => ((h2 r hr).2.2 x hx).1, fun r hr x hx => ((h2 r hr).2.2 x hx).2.1, fun r hr x hx => ((h2 r hr).2.2 x hx).2.2, hm⟩
theorem GoodK.next {l : List RH} {k : Nat} {x : RH} (h : GoodK l k) (hx : l[k]? = some x) (h1 : x.2 ≠ []) (h2 : sortedH x.2) (h3 : ∀ y ∈ x.2, HG l x y) : GoodK l (k + 1) := by
  refine ⟨h.1, fun r hr => ?_⟩
  rw [List.take_add_one, hx] at hr
  rcases List.mem_append.1 hr with e | e
  · exact h.2 r e
  · have : r = x := by simpa using e
    rw [this]; exact ⟨h1, h2, h3⟩
def fstB (r : RH) (h : HH) : Bool := decide ((partsM h.2).1 = r.1)
theorem firsts_succ {l : List RH} {k : Nat} {x : RH} (hx : l[k]? = some x) : (firsts (l.take (k + 1))).length = (firsts (l.take k)).length + (x.2.filter (fstB x)).length := by
  unfold firsts
  rw [List.take_add_one, hx, List.flatMap_append, List.length_append]
  congr 1
  simp
  rfl
theorem firsts_le (l : List RH) : (firsts l).length ≤ tot l := by
  unfold firsts tot
  induction l with
  | nil => simp
  | cons x l ih =>
    rw [List.flatMap_cons, List.flatMap_cons, List.length_append, List.length_append]
    have := List.length_filter_le (fun h => decide ((partsM h.2).1 = x.1)) x.2
    omega
theorem tot_take (l : List RH) (k : Nat) : tot (l.take k) ≤ tot l := by
  unfold tot
  conv => rhs; rw [← List.take_append_drop k l]
  rw [List.flatMap_append, List.length_append]
  omega
theorem tot_row {l : List RH} {r : RH} (hr : r ∈ l) : r.2.length ≤ tot l := by
  unfold tot
  induction l with
  | nil => cases hr
  | cons x l ih =>
    rw [List.flatMap_cons, List.length_append]
    rcases List.mem_cons.1 hr with e | e
    · rw [e]; omega
    · have := ih e; omega
/-- The sought one that is not there. -/
theorem notR {l : List RH} {n : Int} {i : Nat} (hc : Cut (atR l n) l.length i) (h : (decide (i < l.length) && decide (atR l n i = 0)) = false) (hr : risingR l) : ∀ r ∈ l, r.1 ≠ n := fun r hm e => by
  obtain ⟨t, ht⟩ := List.mem_iff_getElem?.1 hm
  have htl := (List.getElem?_eq_some_iff.1 ht).1
  have hmono : ∀ a b, a < b → b < l.length → atR l n a < atR l n b ∨ (atR l n a = atR l n b ∧ atR l n a ≠ 0) := fun a b hab hb => by
    have ha1 : l[a]? = some (l[a]'(by omega)) := List.getElem?_eq_getElem (by omega)
    have hb1 : l[b]? = some (l[b]'hb) := List.getElem?_eq_getElem hb
    have hlt := adj_pairwise (lt := fun a b : RH => a.1 < b.1) hr ha1 hb1 hab
    rw [atR_some ha1, atR_some hb1]
    unfold cmpI
    split <;> split <;> (try split) <;> (try split) <;> omega
  have h0 : atR l n t = 0 := by rw [atR_some ht, cmpI_zero']; exact e
  have hit : i = t := by
    rcases Nat.lt_trichotomy i t with e1 | e1 | e1
    · have h1 := hc.hi (by omega)
      rcases hmono i t e1 htl with h2 | ⟨h2, h3⟩
      · omega
      · omega
    · exact e1
    · have h1 := hc.lo (by omega)
      by_cases e2 : t = i - 1
      · rw [← e2] at h1; omega
      · rcases hmono t (i - 1) (by omega) (by have := hc.le; omega) with h2 | ⟨h2, h3⟩
        · omega
        · omega
  subst hit
  rw [decide_eq_true htl, decide_eq_true h0] at h
  cases h
theorem notH {l : List HH} {x : HH} {i : Nat} (hc : Cut (atH l x) l.length i) (h : (decide (i < l.length) && decide (atH l x i = 0)) = false) (hr : sortedH l) : x ∉ l := fun hm => by
  obtain ⟨t, ht⟩ := List.mem_iff_getElem?.1 hm
  have htl := (List.getElem?_eq_some_iff.1 ht).1
  have h0 : atH l x t = 0 := by rw [atH_some ht, cmpH_zero]
  have hit : i = t := by
    rcases Nat.lt_trichotomy i t with e1 | e1 | e1
    · have h1 := hc.hi (by omega)
      have hi1 : l[i]? = some (l[i]'(by omega)) := List.getElem?_eq_getElem (by omega)
      have := adj_pairwise hr hi1 ht e1
      rw [atH_some hi1] at h1
      have := cmpH_neg.2 this
      omega
    · exact e1
    · have h1 := hc.lo (by omega)
      by_cases e2 : t = i - 1
      · rw [← e2, h0] at h1; omega
      · have hi1 : l[i - 1]? = some (l[i - 1]'(by have := hc.le; omega)) := List.getElem?_eq_getElem (by have := hc.le; omega)
        rw [atH_some hi1] at h1
        have := adj_pairwise hr ht hi1 (by omega)
        exact absurd (cmpH_neg.1 h1) (ahead_asym this)
  subst hit
  rw [decide_eq_true htl, decide_eq_true h0] at h
  cases h
theorem right_no {l : List RH} (h : ¬ OkR l) : rightH l = false := by
  cases e : rightH l with
  | false => rfl
  | true => exact absurd (right_ok.1 e) h
def errR (l : List RH) : Int := if rightH l then 0 else 250
theorem err_no {l : List RH} (h : ¬ OkR l) : errR l = 250 := by unfold errR; rw [right_no h]; rfl
theorem aj_regn (id : Nat) {P : Program} {f : FuncId} {ro : Option Nat} {n : Nat} {R : Value → World → Prop} {k : List Item} {ds : List Deferred} {env : Env} {w : World} {ops : Array Oper} {dr : Bool} (h : J P f ro n R (.code (.region id ops dr) :: k) ds env w) : J P f ro n R (.code (.region id ops dr) :: k) ds env w := h
abbrev xz : RH := (0, [])
abbrev rz : RRef := (0, (none, 0, 0))
theorem foundX {R : Nat → Prop} {w : World} {l : List RH} {rs : List RRef} {n i : Nat} {m : Int} {fb : Bool} (hm : MeanV mRef R w rs l) (hl : l.length = n) (hfb : fb = (decide (i < n) && decide (atR l m i = 0))) :
    fb = true → i < n ∧ l[i]? = some (l.getD i xz) ∧ rs[i]? = some (rs.getD i rz) ∧ (l.getD i xz).1 = m ∧ Sl dHeld R w (rs.getD i rz).2.1 (rs.getD i rz).2.2.1 (rs.getD i rz).2.2.2 (l.getD i xz).2 := fun e => by
  rw [e] at hfb
  have h1 := Bool.and_eq_true_iff.1 hfb.symm
  have hi : i < n := of_decide_eq_true h1.1
  have h0 := of_decide_eq_true h1.2
  have hrl := hm.1
  have hx : l[i]? = some (l[i]'(by omega)) := List.getElem?_eq_getElem (by omega)
  have hr : rs[i]? = some (rs[i]'(by omega)) := List.getElem?_eq_getElem (by omega)
  have ex : l.getD i xz = l[i]'(by omega) := by rw [List.getD_eq_getElem?_getD, hx]; rfl
  have er : rs.getD i rz = rs[i]'(by omega) := by rw [List.getD_eq_getElem?_getD, hr]; rfl
  rw [ex, er]
  refine ⟨hi, hx, hr, ?_, (hm.2 i _ _ hr hx).2⟩
  rw [atR_some hx, cmpI_zero'] at h0
  exact h0
theorem foundH {l : List HH} {n i : Nat} {y : HH} {fb : Bool} (hl : l.length = n) (hfb : fb = (decide (i < n) && decide (atH l y i = 0))) (e : fb = true) : y ∈ l := by
  rw [e] at hfb
  have h1 := Bool.and_eq_true_iff.1 hfb.symm
  have hi : i < n := of_decide_eq_true h1.1
  have h0 := of_decide_eq_true h1.2
  have hx : l[i]? = some (l[i]'(by omega)) := List.getElem?_eq_getElem (by omega)
  rw [atH_some hx, cmpH_zero] at h0
  rw [← h0]; exact List.mem_of_getElem? hx
attribute [local irreducible] Hold J JL JD JX JXat OpR OpG Ret RetV Is Blk Row MapC
set_option maxRecDepth 100000
set_option maxHeartbeats 1000000
theorem rcheck_r (w : World) (a : Option Addr) (n c : Nat) (l : List RH) (h : Sl dRef All w a n c l) (hn : n ≤ 1000000000) (hb : tot l ≤ 1000000) :
    Ret Tryz.prog 71 #[.slice a n c] w fun v w' => v = .int .i64 (errR l) ∧ Ext w w' := by
  refine Ret_of (l := [_]) Tryz.func71 rfl Tryz.ntmps71 (by simp) ?_
  have hs := St.init w
  have hl := h.len
  have hlo := sl_okR h
  obtain ⟨rs, hr, hm⟩ := Sl.raw (D := rawRef) h
  have hrl := hr.len
  obtain ⟨ok0, hok0⟩ : ∃ ok0, ok0 = risesB (fun a b : RH => cmpI a.1 b.1) l := ⟨_, rfl⟩
  have hok1 : ok0 = true → GoodK l 0 := fun e => ⟨risesR.1 (by rw [← hok0]; exact e), fun r hr => by cases hr⟩
  have hok2 : ok0 = false → ¬ OkR l := fun e ho => by rw [risesR.2 ho.rise] at hok0; rw [hok0] at e; cases e
  repeat' (first
    | ((apply al_call 146; refine JL_o (by exact OpR_callF en146 rfl (risR_r _ a n c l (h.st hs))) rfl rfl ?_; rintro _ _ ⟨rfl, hE⟩; rw [← hok0]; have hs := hs.ext hE; (try simp only [List.cons_append, List.nil_append] at hs)))
    | (apply JL_nil)
    | ((apply JL_pure); (first
      | (apply as_move; exact OpR_move rfl is_rfl)
      | (apply as_assign; exact OpR_assign rfl is_rfl)
      | (apply as_b_len; exact OpR_len rfl is_rfl)); first | (exact rfl; exact rfl) | exact rfl)
    | (apply J_seq)
    | (apply J_region)
    | (apply J_block))
  refine J_loopK (α := Nat × Bool × Nat) [(0, _), (16, _), (17, _)] (fun g => [(3, .bool g.2.1), (4, .int .i64 g.2.2), (18, .int .i64 g.1)]) (fun g w' => St w NoF w' [] ∧ g.1 ≤ n ∧ (g.2.1 = true → GoodK l g.1 ∧ g.2.2 = (firsts (l.take g.1)).length) ∧ (g.2.1 = false → ¬ OkR l) ∧ g.2.2 ≤ 1000000) (fun g => n - g.1) (0, ok0, 0) ⟨hs, Nat.zero_le _, fun e => ⟨hok1 e, rfl⟩, hok2, Nat.zero_le _⟩ (by repeat' (first | exact trivial | exact rfl | apply And.intro)) ?_
  rintro ⟨k, ok, mny⟩ w2 ⟨hs1, hk, hg1, hg2, hmny⟩ ih
  dsimp only at hs1 hk hg1 hg2 hmny ih ⊢
  have hs : St w NoF w2 [] := hs1
  by_cases hlt : k < n
  · obtain ⟨p, o, rfl⟩ := hr.sl.addr (by omega)
    have hs : St w NoF w2 [] := hs1
    have hx : l[k]? = some (l[k]'(by omega)) := List.getElem?_eq_getElem (by omega)
    obtain ⟨x, hxd⟩ : ∃ x, x = l[k]'(by omega) := ⟨_, rfl⟩
    rw [← hxd] at hx
    have hxm := List.mem_of_getElem? hx
    obtain ⟨r, hrx, e1, e2⟩ := hm.get hx
    have e1 : r.1 = x.1 := e1
    have mx : Sl dHeld All w r.2.1 r.2.2.1 r.2.2.2 x.2 := e2
    have hxo := (hlo x hxm).2
    have hxl := mx.len
    have htr := tot_row hxm
    obtain ⟨ok', hok'⟩ : ∃ ok', ok' = (ok && (decide (0 < r.2.2.1) && risesB cmpH x.2)) := ⟨_, rfl⟩
    have hbt : ok' = true → ok = true ∧ 0 < r.2.2.1 ∧ risesB cmpH x.2 = true := fun e => by
      rw [hok', Bool.and_eq_true, Bool.and_eq_true, decide_eq_true_eq] at e
      exact e
    have hbf : ok' = false → ¬ OkR l := fun e ho => by
      cases ok with
      | false => exact hg2 rfl ho
      | true =>
        have h1 : 0 < r.2.2.1 := by
          have := ho.some_ x hxm
          rw [← hxl]
          exact List.length_pos_iff.2 this
        rw [hok', decide_eq_true h1, risesH.2 (ho.sort x hxm)] at e
        cases e
    repeat' (first
      | ((apply aj_regn 6; refine J_cutK (γ := Unit) [(0, _), (4, _), (6, _), (16, _), (17, _), (18, _)] (by repeat' (first | exact trivial | exact rfl | apply And.intro)) (fun _ => [(3, .bool ok')]) (fun _ w' => St w NoF w' [Blk b6 (.cells #[.int .i64 r.1, .slice r.2.1 r.2.2.1 r.2.2.2] 116 (0, 0))]) (fun RR kk hcont => hold ?_) (hold ?_)))
      | (apply JL_nil)
      | ((apply JL_pure); (first
      | (apply as_load; first | exact OpR_load' hs rfl rfl is_rfl | exact OpR_load_agg' hs rfl is_rfl | exact OpR_load_el (hr.st hs) hrx rfl rfl is_rfl)
      | (apply as_binOp; exact OpR_ibin rfl rfl rfl is_rfl)
      | (apply as_indexAddr; exact OpR_indexAddr rfl rfl (by omega) (by omega) is_rfl)); first | (exact rfl; exact rfl) | exact rfl)
      | (apply J_seq)
      | (apply J_region)
      | (apply J_block)
      | (apply J_skip)
      | (apply al_none (t := 6); refine JL_o (by apply as_alloc; exact OpR_alloc' hs) rfl rfl ?_; rintro _ _ ⟨b6, rfl, hb6, hs, hE⟩)
      | (apply al_unit; refine JL_u (by apply as_store; exact OpR_store' hs rfl rfl rfl) rfl ?_; rintro _ _ ⟨hs, hF⟩)
      | (apply aj_cond; refine J_dec_t rfl ob ?_))
    · refine unhold ?_
      cases ok with
      | false =>
        rw [Bool.false_and] at hok'
        subst hok'
        repeat' (first
          | (apply JL_nil)
          | ((apply JL_pure); (first
      | (apply as_move; exact OpR_move rfl is_rfl)
      | (apply as_assign; exact OpR_assign rfl is_rfl)
      | (apply as_pick; exact OpR_pick_f rfl gb rfl is_rfl)); first | (exact rfl; exact rfl) | exact rfl)
          | (apply J_region)
          | (apply al_guard; (refine JL_no rfl gb rfl ?_)))
        refine hcont () _ _ hs (by repeat' (first | exact trivial | exact rfl | apply And.intro))
      | true =>
        rw [Bool.true_and] at hok'
        by_cases h0 : 0 < r.2.2.1
        · rw [decide_eq_true h0, Bool.true_and] at hok'
          repeat' (first
            | ((apply al_callg 149; refine JL_o_on rfl gb (by exact OpR_callF en149 rfl (risH_r _ r.2.1 r.2.2.1 r.2.2.2 x.2 (mx.st hs))) rfl rfl ?_; rintro _ _ ⟨rfl, hE⟩; rw [← hok']; have hs := hs.ext hE; (try simp only [List.cons_append, List.nil_append] at hs)))
            | (apply JL_nil)
            | ((first | (apply JL_pure) | (apply JL_pure_on; exact rfl; exact gb)); (first
      | (apply as_move; exact OpR_move rfl is_rfl)
      | (apply as_assign; exact OpR_assign rfl is_rfl)
      | (apply as_fieldAddr; exact OpR_fieldAddr0 rfl rfl is_rfl)
      | (apply as_load; exact OpR_load' hs rfl rfl is_rfl)
      | (apply as_binOp; exact OpR_ibin rfl rfl rfl is_rfl)
      | (apply as_pick; exact OpR_pick_t rfl gb rfl is_rfl)
      | (apply as_b_len; exact OpR_len rfl is_rfl)); first | (exact rfl; exact rfl) | exact rfl)
            | (apply J_region))
          all_goals refine hcont () _ _ hs (by repeat' (first | exact trivial | exact rfl | apply And.intro))
        · rw [decide_eq_false h0, Bool.false_and] at hok'
          subst hok'
          repeat' (first
            | (apply JL_nil)
            | ((first | (apply JL_pure) | (apply JL_pure_on; exact rfl; exact gb)); (first
      | (apply as_move; exact OpR_move rfl is_rfl)
      | (apply as_assign; exact OpR_assign rfl is_rfl)
      | (apply as_fieldAddr; exact OpR_fieldAddr0 rfl rfl is_rfl)
      | (apply as_load; exact OpR_load' hs rfl rfl is_rfl)
      | (apply as_binOp; exact OpR_ibin rfl rfl rfl is_rfl)
      | (apply as_pick; first | exact OpR_pick_t rfl gb rfl is_rfl | exact OpR_pick_f rfl gb rfl is_rfl)
      | (apply as_b_len; exact OpR_len rfl is_rfl)); first | (exact rfl; exact rfl) | exact rfl)
            | (apply J_region)
            | (apply al_guard; (refine JL_no rfl gb rfl ?_)))
          refine hcont () _ _ hs (by repeat' (first | exact trivial | exact rfl | apply And.intro))
    · refine unhold ?_
      rintro _ w3 hs1
      have hs : St w NoF w3 [_] := hs1
      cases ok' with
      | false =>
        have hno := hbf rfl
        repeat' (first
          | (apply JL_nil)
          | ((apply JL_pure); (first
      | (apply as_move; exact OpR_move rfl is_rfl)
      | (apply as_fieldAddr; exact OpR_fieldAddr0 rfl rfl is_rfl)
      | (apply as_load; exact OpR_load' hs rfl rfl is_rfl)
      | (apply as_b_len; exact OpR_len rfl is_rfl)); first | (exact rfl; exact rfl) | exact rfl)
          | (apply J_seq)
          | (apply J_region)
          | (apply J_block))
        refine J_loopK (α := Unit) [(0, _), (6, _), (16, _), (17, _), (18, _), (35, _), (36, _)] (fun _ => [(3, .bool false), (4, .int .i64 mny), (37, .int .i64 0)]) (fun _ w' => St w NoF w' [Blk b6 (.cells #[.int .i64 r.1, .slice r.2.1 r.2.2.1 r.2.2.2] 116 (0, 0))]) (fun _ => 0) () hs (by repeat' (first | exact trivial | exact rfl | apply And.intro)) ?_
        rintro _ w4 hs1 _
        have hs : St w NoF w4 [_] := hs1
        by_cases h0 : 0 < r.2.2.1
        · obtain ⟨p2, o2, ha2⟩ := mx.sl.addr h0
          rw [ha2] at mx hs ⊢
          have hy : x.2[0]? = some (x.2[0]'(by omega)) := List.getElem?_eq_getElem (by omega)
          rw [err_no hno]
          repeat' (first
            | (apply JL_nil)
            | ((apply JL_pure); (first
      | (apply as_load; first | exact OpR_load' hs rfl rfl is_rfl | exact OpR_load_agg' hs rfl is_rfl | exact OpR_load_el (i := 0) (mx.st hs) hy rfl rfl is_rfl)
      | (apply as_move; exact OpR_move rfl is_rfl)
      | (apply as_assign; exact OpR_assign rfl is_rfl)
      | (apply as_binOp; exact OpR_ibin rfl rfl rfl is_rfl)
      | (apply as_unOp; exact OpR_not rfl is_rfl)
      | (apply as_pick; exact OpR_pick_f rfl gb rfl is_rfl)
      | (apply as_indexAddr; exact OpR_indexAddr rfl rfl (by omega) (by omega) is_rfl)); first | (exact rfl; exact rfl) | exact rfl)
            | (apply J_seq)
            | (apply J_region)
            | (apply J_block)
            | (apply J_skip)
            | (apply al_none (t := 8); refine JL_o (by apply as_alloc; exact OpR_alloc' hs) rfl rfl ?_; rintro _ _ ⟨b8, rfl, hb8, hs, hE⟩)
            | (apply al_unit; refine JL_u (by apply as_store; exact OpR_store' hs rfl rfl rfl) rfl ?_; rintro _ _ ⟨hs, hF⟩)
            | (apply al_guard; (refine JL_no rfl gb rfl ?_))
            | (apply aj_cond; first | refine J_dec_t rfl ob ?_ | refine J_cond_t rfl gb ?_))
          refine J_leave Tryz.func71 rfl (.tmp rfl .nil) ⟨rfl, hs.frm.ext⟩
        · repeat' (first
            | (apply JL_nil)
            | ((apply JL_pure); (first
      | (apply as_move; exact OpR_move rfl is_rfl)
      | (apply as_add; exact OpR_addn rfl rfl (by omega) (by first | (simp only [Int.reduceAdd]; exact rfl) | exact rfl) is_rfl)
      | (apply as_binOp; exact OpR_ibin rfl rfl rfl is_rfl)); first | (exact rfl; exact rfl) | exact rfl)
            | (apply J_seq)
            | (apply J_region)
            | (apply J_inBlock)
            | (apply aj_exit; refine J_exit rfl ?_)
            | (apply aj_cond; refine J_dec_f rfl ob ?_))
          refine ih (k + 1, false, mny) _ _ ⟨hs.sel [] (by decide), hlt, (fun e => by cases e), (fun _ => hno), hmny⟩ (by show n - (k + 1) < n - k; omega) (by repeat' (first | exact trivial | exact rfl | apply And.intro))
      | true =>
        obtain ⟨hokt, h0, hrise⟩ := hbt rfl
        subst hokt
        obtain ⟨hgk, hmk⟩ := hg1 rfl
        have hsrt : sortedH x.2 := risesH.1 hrise
        have hsum : mny + x.2.length ≤ 1000000 := by
          have h1 := firsts_le (l.take k)
          have h2 := congrArg List.length (flat_split hx)
          rw [List.length_append, List.length_append] at h2
          unfold tot at h1 hb
          omega
        obtain ⟨p2, o2, ha2⟩ := mx.sl.addr h0
        rw [ha2] at mx hs
        repeat' (first
          | (apply JL_nil)
          | ((apply JL_pure); (first
      | (apply as_move; exact OpR_move rfl is_rfl)
      | (apply as_fieldAddr; exact OpR_fieldAddr0 rfl rfl is_rfl)
      | (apply as_load; exact OpR_load' hs rfl rfl is_rfl)
      | (apply as_b_len; exact OpR_len rfl is_rfl)); first | (exact rfl; exact rfl) | exact rfl)
          | (apply J_seq)
          | (apply J_region)
          | (apply J_block))
        refine J_loopK (α := Nat × Nat) [(0, _), (6, _), (16, _), (17, _), (18, _), (35, _), (36, _)] (fun g => [(3, .bool true), (4, .int .i64 g.2), (37, .int .i64 g.1)]) (fun g w' => St w NoF w' [Blk b6 (.cells #[.int .i64 r.1, .slice (some ⟨p2, o2, none⟩) r.2.2.1 r.2.2.2] 116 (0, 0))] ∧ g.1 ≤ r.2.2.1 ∧ (∀ y ∈ x.2.take g.1, HG l x y) ∧ g.2 = mny + ((x.2.take g.1).filter (fstB x)).length) (fun g => r.2.2.1 - g.1) (0, mny) ⟨hs, Nat.zero_le _, (fun y hy => by cases hy), rfl⟩ (by repeat' (first | exact trivial | exact rfl | apply And.intro)) ?_
        rintro ⟨j, many⟩ w4 ⟨hs1, hj, hgj, hmj⟩ ih2
        dsimp only at hs1 hj hgj hmj ih2 ⊢
        have hs : St w NoF w4 [_] := hs1
        by_cases hlj : j < r.2.2.1
        · have hy : x.2[j]? = some (x.2[j]'(by omega)) := List.getElem?_eq_getElem (by omega)
          obtain ⟨y, hyd⟩ : ∃ y, y = x.2[j]'(by omega) := ⟨_, rfl⟩
          rw [← hyd] at hy
          have hym := List.mem_of_getElem? hy
          have hyo := hxo y hym
          have hfs := congrArg List.length (filter_succ (fstB x) hy)
          rw [List.length_append] at hfs
          have hmanyb : many ≤ 1000000 := by
            have := filter_le (l := x.2) (k := j) (fstB x)
            omega
          by_cases hmay : mayH y = true
          · by_cases hme : mentB y.2 x.1 = true
            · have hp12 := ment_iff.1 hme
              rw [← e1] at hp12
              obtain ⟨p1, hp1⟩ : ∃ p1, p1 = (partsM y.2).1 := ⟨_, rfl⟩
              obtain ⟨q1, hq1⟩ : ∃ q1, q1 = (partsM y.2).2 := ⟨_, rfl⟩
              rw [← hp1, ← hq1] at hp12
              have hfst : fstB x y = decide (p1 = r.1) := by unfold fstB; rw [e1, hp1]
              rw [hfst] at hfs
              repeat' (first
                | ((apply aj_condt 55; refine J_cutK (γ := Nat) [(0, _), (3, _), (6, _), (8, _), (9, _), (16, _), (17, _), (18, _), (35, _), (36, _), (37, _)] (by repeat' (first | exact trivial | exact rfl | apply And.intro)) (fun g => [(4, .int .i64 g)]) (fun g w' => St w NoF w' [Blk b9 (.cells #[.int .i64 p1, .int .i64 q1] 190 (0, 0)), Blk b8 (.cells #[.int .i64 y.1, .int .u64 y.2] 31 (0, 0)), Blk b6 (.cells #[.int .i64 r.1, .slice (some ⟨p2, o2, none⟩) r.2.2.1 r.2.2.2] 116 (0, 0))] ∧ g = mny + ((x.2.take (j + 1)).filter (fstB x)).length) (fun RR kk hcont => hold ?_) (hold ?_)))
                | ((apply al_callg 72; refine JL_o_on rfl gb (by exact OpR_callF en72 rfl (rmay_r _ y hyo)) rfl rfl ?_; rintro _ _ ⟨rfl, hE⟩; rw [hmay]; have hs := hs.ext hE; (try simp only [List.cons_append, List.nil_append] at hs)))
                | ((apply al_call 150; refine JL_o (by exact OpR_callF en150 rfl (both_r _ y.2 hyo.2)) rfl rfl ?_; rintro _ _ ⟨rfl, hE⟩; rw [← hp1, ← hq1]; have hs := hs.ext hE; (try simp only [List.cons_append, List.nil_append] at hs)))
                | (apply JL_nil)
                | ((first | (apply JL_pure) | (apply JL_pure_on; exact rfl; exact gb)); (first
      | (apply as_load; first | exact OpR_load' hs rfl rfl is_rfl | exact OpR_load_agg' hs rfl is_rfl | exact OpR_load_el (i := j) (mx.st hs) hy rfl rfl is_rfl)
      | (apply as_move; exact OpR_move rfl is_rfl)
      | (apply as_assign; exact OpR_assign rfl is_rfl)
      | (apply as_fieldAddr; exact OpR_fieldAddr0 rfl rfl is_rfl)
      | (apply as_binOp; exact OpR_ibin rfl rfl rfl is_rfl)
      | (apply as_unOp; exact OpR_not rfl is_rfl)
      | (apply as_pick; exact OpR_pick_t rfl gb rfl is_rfl)
      | (apply as_indexAddr; first | exact OpR_indexAddr rfl rfl (by omega) (by omega) is_rfl | exact OpR_indexAddr_arr' rfl rfl (by omega) (by omega) (by first | (simp only [Int.reduceToNat, Nat.reduceMul, Nat.reduceAdd]; exact rfl) | exact rfl) is_rfl)); first | (exact rfl; exact rfl) | exact rfl)
                | (apply J_seq)
                | (apply J_region)
                | (apply J_block)
                | (apply J_skip)
                | (apply al_none (t := 8); refine JL_o (by apply as_alloc; exact OpR_alloc' hs) rfl rfl ?_; rintro _ _ ⟨b8, rfl, hb8, hs, hE⟩)
                | (apply al_none (t := 9); refine JL_o (by apply as_alloc; exact OpR_alloc' hs) rfl rfl ?_; rintro _ _ ⟨b9, rfl, hb9, hs, hE⟩)
                | (apply al_unit; refine JL_u (by apply as_store; exact OpR_store' hs rfl rfl rfl) rfl ?_; rintro _ _ ⟨hs, hF⟩)
                | (apply aj_cond; first | refine J_dec_t rfl ob ?_ | refine J_cond_f rfl gb ?_))
              · refine unhold ?_
                by_cases hc : p1 = r.1
                · rw [decide_eq_true hc] at hfs
                  repeat' (first
                    | (apply JL_nil)
                    | ((apply JL_pure); (first
      | (apply as_move; exact OpR_move rfl is_rfl)
      | (apply as_assign; exact OpR_assign rfl is_rfl)
      | (apply as_add; exact OpR_addn rfl rfl (by omega) (by first | (simp only [Int.reduceAdd]; exact rfl) | exact rfl) is_rfl)); first | (exact rfl; exact rfl) | exact rfl)
                    | (apply J_region)
                    | (apply aj_cond; refine J_dec_t rfl ob ?_))
                  refine hcont (many + 1) _ _ ⟨hs, by rw [hfs, hmj]; simp; omega⟩ (by repeat' (first | exact trivial | exact rfl | apply And.intro))
                · rw [decide_eq_false hc] at hfs
                  have hc2 : q1 = r.1 := hp12.resolve_left hc
                  repeat' (first
                    | (apply JL_nil)
                    | ((apply JL_pure); (first
      | (apply as_fieldAddr; exact OpR_fieldAddr0 rfl rfl is_rfl)
      | (apply as_load; exact OpR_load' hs rfl rfl is_rfl)
      | (apply as_binOp; exact OpR_ibin rfl rfl rfl is_rfl)
      | (apply as_indexAddr; exact OpR_indexAddr_arr' rfl rfl (by omega) (by omega) (by first | (simp only [Int.reduceToNat, Nat.reduceMul, Nat.reduceAdd]; exact rfl) | exact rfl) is_rfl)); first | (exact rfl; exact rfl) | exact rfl)
                    | (apply J_seq)
                    | (apply J_region)
                    | (apply J_skip)
                    | (apply aj_cond; refine J_dec_f rfl ob ?_))
                  refine hcont many _ _ ⟨hs, by rw [hfs, hmj]; simp⟩ (by repeat' (first | exact trivial | exact rfl | apply And.intro))
              · refine unhold ?_
                rintro many' w5 ⟨hs1, hmm⟩
                have hs : St w NoF w5 [_, _, _] := hs1
                have hmanyb2 : many' ≤ 1000000 := by
                  have := filter_le (l := x.2) (k := j + 1) (fstB x)
                  omega
                repeat' (first
                  | (apply JL_nil)
                  | ((apply JL_pure); (first
      | (apply as_move; exact OpR_move rfl is_rfl)
      | (apply as_load; exact OpR_load_agg' hs rfl is_rfl)); first | (exact rfl; exact rfl) | exact rfl)
                  | (apply J_seq)
                  | (apply J_region)
                  | (apply J_block))
                refine J_loopK (α := Nat) [(0, _), (3, _), (4, _), (6, _), (8, _), (16, _), (17, _), (18, _), (35, _), (36, _), (37, _), (63, _)] (fun i => [(64, .int .i64 i)]) (fun i w' => St w NoF w' [Blk b9 (.cells #[.int .i64 p1, .int .i64 q1] 190 (0, 0)), Blk b8 (.cells #[.int .i64 y.1, .int .u64 y.2] 31 (0, 0)), Blk b6 (.cells #[.int .i64 r.1, .slice (some ⟨p2, o2, none⟩) r.2.2.1 r.2.2.2] 116 (0, 0))] ∧ i ≤ 2 ∧ (0 < i → ∃ r' ∈ l, r'.1 = p1 ∧ y ∈ r'.2) ∧ (1 < i → ∃ r' ∈ l, r'.1 = q1 ∧ y ∈ r'.2)) (fun i => 2 - i) 0 ⟨hs, by omega, (fun e => by omega), (fun e => by omega)⟩ (by repeat' (first | exact trivial | exact rfl | apply And.intro)) ?_
                rintro i w6 ⟨hs1, hi2, hf1, hf2⟩ ih3
                have hs : St w NoF w6 [_, _, _] := hs1
                have hcase : i = 0 ∨ i = 1 ∨ i = 2 := by omega
                rcases hcase with rfl | rfl | rfl
                · have hmn : mentB y.2 p1 = true := ment_iff.2 (.inl hp1.symm)
                  repeat' (first
                    | ((apply al_call 151; refine JL_o (by exact OpR_callF en151 rfl (find_r15 _ (some ⟨p, o, none⟩) n c l p1 (h.st hs) hn)) rfl rfl ?_; rintro _ _ ⟨i1, hcut1, rfl, hE⟩; have hs := hs.ext hE; obtain ⟨fb, hfb⟩ : ∃ fb, fb = (decide (i1 < n) && decide (atR l p1 i1 = 0)) := ⟨_, rfl⟩; rw [← hfb]; have hfx := foundX hm hl hfb; cases fb; rotate_left; obtain ⟨hi1, hx1, hr1, hp1x, m1⟩ := hfx rfl; have hsz1 := Nat.le_trans (tot_row (List.mem_of_getElem? hx1)) hb; have hm1l := m1.len; rotate_left; (try simp only [List.cons_append, List.nil_append] at hs)))
                    | ((apply ax_c; apply JX_cF 76; exact rfl; (intro W X hN hs; exact OpR_callF en76 rfl (bsh_r _ (rs.getD i1 rz).2.1 (rs.getD i1 rz).2.2.1 (rs.getD i1 rz).2.2.2 (l.getD i1 xz).2 y (m1.st hs) hyo (by omega))); (rintro _ _ _ _ ⟨i2, hcut2, rfl, hE⟩; first | exact hE | exact Fresh.ext hf); rintro W X _ _ hN hs ⟨i2, hcut2, rfl, hE⟩; have hs := hs.ext hE; obtain ⟨fb2, hfb2⟩ : ∃ fb2, fb2 = (decide (i2 < (rs.getD i1 rz).2.2.1) && decide (atH (l.getD i1 xz).2 y i2 = 0)) := ⟨_, rfl⟩; rw [← hfb2]; (try simp only [List.cons_append, List.nil_append] at hs); refine JX.at hs ?_))
                    | (apply JL_nil)
                    | ((first | (apply JL_pure) | (apply JX_f; exact rfl; intro W X hs)); (first
      | (apply as_load; first | exact OpR_load' hs rfl rfl is_rfl | exact OpR_load_agg' hs rfl is_rfl | exact OpR_load_el1 (b := p) (o := o) (i := i1) (j := 1) (hr.st hs) hr1 rfl rfl rfl is_rfl)
      | (apply as_move; exact OpR_move rfl is_rfl)
      | (apply as_assign; exact OpR_assign rfl is_rfl)
      | (apply as_fieldAddr; exact OpR_fieldAddr rfl rfl is_rfl)
      | (apply as_add; exact OpR_addn rfl rfl (by omega) (by first | (simp only [Int.reduceAdd]; exact rfl) | exact rfl) is_rfl)
      | (apply as_binOp; exact OpR_ibin rfl rfl rfl is_rfl)
      | (apply as_unOp; exact OpR_not rfl is_rfl)
      | (apply as_extract; exact OpR_extract rfl rfl is_rfl)
      | (apply as_indexAddr; exact OpR_indexAddr rfl rfl (by omega) (by omega) is_rfl)
      | (apply as_index; exact OpR_index rfl rfl (by omega) (by omega) rfl is_rfl)); first | (exact rfl; exact rfl) | exact rfl)
                    | (apply J_seq)
                    | (apply J_region)
                    | (apply J_block)
                    | (apply J_inBlock)
                    | (apply J_skip)
                    | (apply aj_cond; first | refine J_dec_t rfl ob ?_ | refine J_cond_t rfl gb ?_ | refine J_cond_f rfl gb ?_ | (refine J_cond rfl (fun _ => ?_) (fun _ => ?_)))
                    | (apply aj_draw; (refine J_drawX (id := 24) [0, 0, 3, 7, 15, 0, 63, 127, 255, 255, 1023] [(0, 0), (1, 0), (2, 0), (3, 0), (4, 0), (5, 0), (6, 1), (7, 0), (8, 0), (9, 0), (10, 0)] [] hs mixed (by kernel_rfl) (by kernel_rfl) (by kernel_rfl) (by kernel_rfl) (by kernel_rfl) ?_))
                    | (refine JX_done (fun W hs => ?_))
                    | (apply JD_done))
                  · have hno : ¬ OkR l := fun ho => by
                      obtain ⟨r', hr', e', _⟩ := ho.there x hxm y hym _ hmn
                      exact notR (by rw [hl]; exact hcut1) (by rw [hl]; exact hfb.symm) ho.rise r' hr' e'
                    rw [err_no hno]
                    refine J_leave Tryz.func71 rfl (.tmp rfl .nil) ⟨rfl, hs.frm.ext⟩
                  · rename_i hq
                    have hq2 : fb2 = false := by simpa using hq
                    have hno : ¬ OkR l := fun ho => by
                      obtain ⟨r', hr', e', hyr⟩ := ho.there x hxm y hym _ hmn
                      have := risingR_inj ho.rise hr' (List.mem_of_getElem? hx1) (e'.trans hp1x.symm)
                      subst this
                      exact notH (by rw [hm1l]; exact hcut2) (by rw [hm1l, ← hfb2]; exact hq2) (ho.sort _ hr') hyr
                    rw [err_no hno]
                    refine J_leave Tryz.func71 rfl (.tmp rfl .nil) ⟨rfl, hs.frm.ext⟩
                  · rename_i hq
                    have hq2 : fb2 = true := by simpa using hq
                    refine ih3 1 _ _ ⟨hs, by omega, (fun _ => ⟨_, List.mem_of_getElem? hx1, hp1x, foundH m1.len hfb2 hq2⟩), (fun e => by omega)⟩ (by omega) (by repeat' (first | exact trivial | exact rfl | apply And.intro))
                · have hmn : mentB y.2 q1 = true := ment_iff.2 (.inr hq1.symm)
                  repeat' (first
                    | ((apply al_call 151; refine JL_o (by exact OpR_callF en151 rfl (find_r15 _ (some ⟨p, o, none⟩) n c l q1 (h.st hs) hn)) rfl rfl ?_; rintro _ _ ⟨i1, hcut1, rfl, hE⟩; have hs := hs.ext hE; obtain ⟨fb, hfb⟩ : ∃ fb, fb = (decide (i1 < n) && decide (atR l q1 i1 = 0)) := ⟨_, rfl⟩; rw [← hfb]; have hfx := foundX hm hl hfb; cases fb; rotate_left; obtain ⟨hi1, hx1, hr1, hp1x, m1⟩ := hfx rfl; have hsz1 := Nat.le_trans (tot_row (List.mem_of_getElem? hx1)) hb; have hm1l := m1.len; rotate_left; (try simp only [List.cons_append, List.nil_append] at hs)))
                    | ((apply ax_c; apply JX_cF 76; exact rfl; (intro W X hN hs; exact OpR_callF en76 rfl (bsh_r _ (rs.getD i1 rz).2.1 (rs.getD i1 rz).2.2.1 (rs.getD i1 rz).2.2.2 (l.getD i1 xz).2 y (m1.st hs) hyo (by omega))); (rintro _ _ _ _ ⟨i2, hcut2, rfl, hE⟩; first | exact hE | exact Fresh.ext hf); rintro W X _ _ hN hs ⟨i2, hcut2, rfl, hE⟩; have hs := hs.ext hE; obtain ⟨fb2, hfb2⟩ : ∃ fb2, fb2 = (decide (i2 < (rs.getD i1 rz).2.2.1) && decide (atH (l.getD i1 xz).2 y i2 = 0)) := ⟨_, rfl⟩; rw [← hfb2]; (try simp only [List.cons_append, List.nil_append] at hs); refine JX.at hs ?_))
                    | (apply JL_nil)
                    | ((first | (apply JL_pure) | (apply JX_f; exact rfl; intro W X hs)); (first
      | (apply as_load; first | exact OpR_load' hs rfl rfl is_rfl | exact OpR_load_agg' hs rfl is_rfl | exact OpR_load_el1 (b := p) (o := o) (i := i1) (j := 1) (hr.st hs) hr1 rfl rfl rfl is_rfl)
      | (apply as_move; exact OpR_move rfl is_rfl)
      | (apply as_assign; exact OpR_assign rfl is_rfl)
      | (apply as_fieldAddr; exact OpR_fieldAddr rfl rfl is_rfl)
      | (apply as_add; exact OpR_addn rfl rfl (by omega) (by first | (simp only [Int.reduceAdd]; exact rfl) | exact rfl) is_rfl)
      | (apply as_binOp; exact OpR_ibin rfl rfl rfl is_rfl)
      | (apply as_unOp; exact OpR_not rfl is_rfl)
      | (apply as_extract; exact OpR_extract rfl rfl is_rfl)
      | (apply as_indexAddr; exact OpR_indexAddr rfl rfl (by omega) (by omega) is_rfl)
      | (apply as_index; exact OpR_index rfl rfl (by omega) (by omega) rfl is_rfl)); first | (exact rfl; exact rfl) | exact rfl)
                    | (apply J_seq)
                    | (apply J_region)
                    | (apply J_block)
                    | (apply J_inBlock)
                    | (apply J_skip)
                    | (apply aj_cond; first | refine J_dec_t rfl ob ?_ | refine J_cond_t rfl gb ?_ | refine J_cond_f rfl gb ?_ | (refine J_cond rfl (fun _ => ?_) (fun _ => ?_)))
                    | (apply aj_draw; (refine J_drawX (id := 24) [0, 0, 3, 7, 15, 0, 63, 127, 255, 255, 1023] [(0, 0), (1, 0), (2, 0), (3, 0), (4, 0), (5, 0), (6, 1), (7, 0), (8, 0), (9, 0), (10, 0)] [] hs mixed (by kernel_rfl) (by kernel_rfl) (by kernel_rfl) (by kernel_rfl) (by kernel_rfl) ?_))
                    | (refine JX_done (fun W hs => ?_))
                    | (apply JD_done))
                  · have hno : ¬ OkR l := fun ho => by
                      obtain ⟨r', hr', e', _⟩ := ho.there x hxm y hym _ hmn
                      exact notR (by rw [hl]; exact hcut1) (by rw [hl]; exact hfb.symm) ho.rise r' hr' e'
                    rw [err_no hno]
                    refine J_leave Tryz.func71 rfl (.tmp rfl .nil) ⟨rfl, hs.frm.ext⟩
                  · rename_i hq
                    have hq2 : fb2 = false := by simpa using hq
                    have hno : ¬ OkR l := fun ho => by
                      obtain ⟨r', hr', e', hyr⟩ := ho.there x hxm y hym _ hmn
                      have := risingR_inj ho.rise hr' (List.mem_of_getElem? hx1) (e'.trans hp1x.symm)
                      subst this
                      exact notH (by rw [hm1l]; exact hcut2) (by rw [hm1l, ← hfb2]; exact hq2) (ho.sort _ hr') hyr
                    rw [err_no hno]
                    refine J_leave Tryz.func71 rfl (.tmp rfl .nil) ⟨rfl, hs.frm.ext⟩
                  · rename_i hq
                    have hq2 : fb2 = true := by simpa using hq
                    refine ih3 2 _ _ ⟨hs, by omega, (fun _ => hf1 (by omega)), (fun _ => ⟨_, List.mem_of_getElem? hx1, hp1x, foundH m1.len hfb2 hq2⟩)⟩ (by omega) (by repeat' (first | exact trivial | exact rfl | apply And.intro))
                · repeat' (first
                    | (apply JL_nil)
                    | ((apply JL_pure); (first
      | (apply as_move; exact OpR_move rfl is_rfl)
      | (apply as_add; exact OpR_addn rfl rfl (by omega) (by first | (simp only [Int.reduceAdd]; exact rfl) | exact rfl) is_rfl)
      | (apply as_binOp; exact OpR_ibin rfl rfl rfl is_rfl)); first | (exact rfl; exact rfl) | exact rfl)
                    | (apply J_seq)
                    | (apply J_region)
                    | (apply J_inBlock)
                    | (apply aj_exit; refine J_exit rfl ?_)
                    | (apply aj_cond; refine J_dec_f rfl ob ?_))
                  refine ih2 (j + 1, many') _ _ ⟨hs.sel [2] (by decide), hlj, fun z hz => ?_, hmm⟩ (by show r.2.2.1 - (j + 1) < r.2.2.1 - j; omega) (by repeat' (first | exact trivial | exact rfl | apply And.intro))
                  rw [List.take_add_one, hy] at hz
                  rcases List.mem_append.1 hz with e | e
                  · exact hgj z e
                  · have hzy : z = y := by simpa using e
                    rw [hzy]
                    refine ⟨hmay, hme, fun m hm2 => ?_⟩
                    rcases ment_iff.1 hm2 with e | e
                    · rw [← e, ← hp1]; exact hf1 (by omega)
                    · rw [← e, ← hq1]; exact hf2 (by omega)
            · have hno : ¬ OkR l := fun ho => hme (ho.ment x hxm y hym)
              rw [err_no hno]
              have hp1 : ¬ (partsM y.2).1 = r.1 := fun e => hme (ment_iff.2 (.inl (e.trans e1)))
              have hq1 : ¬ (partsM y.2).2 = r.1 := fun e => hme (ment_iff.2 (.inr (e.trans e1)))
              repeat' (first
                | ((apply al_callg 72; refine JL_o_on rfl gb (by exact OpR_callF en72 rfl (rmay_r _ y hyo)) rfl rfl ?_; rintro _ _ ⟨rfl, hE⟩; rw [hmay]; have hs := hs.ext hE; (try simp only [List.cons_append, List.nil_append] at hs)))
                | ((apply al_call 150; refine JL_o (by exact OpR_callF en150 rfl (both_r _ y.2 hyo.2)) rfl rfl ?_; rintro _ _ ⟨rfl, hE⟩; have hs := hs.ext hE; (try simp only [List.cons_append, List.nil_append] at hs)))
                | (apply JL_nil)
                | ((first | (apply JL_pure) | (apply JL_pure_on; exact rfl; exact gb)); (first
      | (apply as_load; first | exact OpR_load' hs rfl rfl is_rfl | exact OpR_load_agg' hs rfl is_rfl | exact OpR_load_el (i := j) (mx.st hs) hy rfl rfl is_rfl)
      | (apply as_move; exact OpR_move rfl is_rfl)
      | (apply as_assign; exact OpR_assign rfl is_rfl)
      | (apply as_fieldAddr; exact OpR_fieldAddr0 rfl rfl is_rfl)
      | (apply as_binOp; exact OpR_ibin rfl rfl rfl is_rfl)
      | (apply as_unOp; exact OpR_not rfl is_rfl)
      | (apply as_pick; exact OpR_pick_t rfl gb rfl is_rfl)
      | (apply as_indexAddr; first | exact OpR_indexAddr rfl rfl (by omega) (by omega) is_rfl | exact OpR_indexAddr_arr' rfl rfl (by omega) (by omega) (by first | (simp only [Int.reduceToNat, Nat.reduceMul, Nat.reduceAdd]; exact rfl) | exact rfl) is_rfl)); first | (exact rfl; exact rfl) | exact rfl)
                | (apply J_seq)
                | (apply J_region)
                | (apply J_block)
                | (apply J_skip)
                | (apply al_none (t := 8); refine JL_o (by apply as_alloc; exact OpR_alloc' hs) rfl rfl ?_; rintro _ _ ⟨b8, rfl, hb8, hs, hE⟩)
                | (apply al_none (t := 9); refine JL_o (by apply as_alloc; exact OpR_alloc' hs) rfl rfl ?_; rintro _ _ ⟨b9, rfl, hb9, hs, hE⟩)
                | (apply al_unit; refine JL_u (by apply as_store; exact OpR_store' hs rfl rfl rfl) rfl ?_; rintro _ _ ⟨hs, hF⟩)
                | (apply aj_cond; first | refine J_dec_t rfl ob ?_ | refine J_dec_f rfl ob ?_ | refine J_cond_f rfl gb ?_))
              refine J_leave Tryz.func71 rfl (.tmp rfl .nil) ⟨rfl, hs.frm.ext⟩
          · have hno : ¬ OkR l := fun ho => hmay (ho.may x hxm y hym)
            have hmay2 : mayH y = false := by simpa using hmay
            rw [err_no hno]
            repeat' (first
              | ((apply al_callg 72; refine JL_o_on rfl gb (by exact OpR_callF en72 rfl (rmay_r _ y hyo)) rfl rfl ?_; rintro _ _ ⟨rfl, hE⟩; rw [hmay2]; have hs := hs.ext hE; (try simp only [List.cons_append, List.nil_append] at hs)))
              | (apply JL_nil)
              | ((first | (apply JL_pure) | (apply JL_pure_on; exact rfl; exact gb)); (first
      | (apply as_load; first | exact OpR_load' hs rfl rfl is_rfl | exact OpR_load_agg' hs rfl is_rfl | exact OpR_load_el (i := j) (mx.st hs) hy rfl rfl is_rfl)
      | (apply as_move; exact OpR_move rfl is_rfl)
      | (apply as_assign; exact OpR_assign rfl is_rfl)
      | (apply as_binOp; exact OpR_ibin rfl rfl rfl is_rfl)
      | (apply as_unOp; exact OpR_not rfl is_rfl)
      | (apply as_pick; exact OpR_pick_t rfl gb rfl is_rfl)
      | (apply as_indexAddr; exact OpR_indexAddr rfl rfl (by omega) (by omega) is_rfl)); first | (exact rfl; exact rfl) | exact rfl)
              | (apply J_seq)
              | (apply J_region)
              | (apply J_block)
              | (apply J_skip)
              | (apply al_none (t := 8); refine JL_o (by apply as_alloc; exact OpR_alloc' hs) rfl rfl ?_; rintro _ _ ⟨b8, rfl, hb8, hs, hE⟩)
              | (apply al_unit; refine JL_u (by apply as_store; exact OpR_store' hs rfl rfl rfl) rfl ?_; rintro _ _ ⟨hs, hF⟩)
              | (apply aj_cond; first | refine J_dec_t rfl ob ?_ | refine J_cond_t rfl gb ?_))
            refine J_leave Tryz.func71 rfl (.tmp rfl .nil) ⟨rfl, hs.frm.ext⟩
        · rw [List.take_of_length_le (l := x.2) (by omega)] at hgj hmj
          repeat' (first
            | (apply JL_nil)
            | ((apply JL_pure); (first
      | (apply as_move; exact OpR_move rfl is_rfl)
      | (apply as_add; exact OpR_addn rfl rfl (by omega) (by first | (simp only [Int.reduceAdd]; exact rfl) | exact rfl) is_rfl)
      | (apply as_binOp; exact OpR_ibin rfl rfl rfl is_rfl)); first | (exact rfl; exact rfl) | exact rfl)
            | (apply J_seq)
            | (apply J_region)
            | (apply J_inBlock)
            | (apply aj_exit; refine J_exit rfl ?_)
            | (apply aj_cond; refine J_dec_f rfl ob ?_))
          refine ih (k + 1, true, many) _ _ ⟨hs.sel [] (by decide), hlt, (fun _ => ⟨hgk.next hx (fun e => by rw [e] at hxl; simp at hxl; omega) hsrt hgj, by show many = _; rw [firsts_succ hx, hmj, hmk]⟩), (fun e => by cases e), ?_⟩ (by show n - (k + 1) < n - k; omega) (by repeat' (first | exact trivial | exact rfl | apply And.intro))
          have := List.length_filter_le (fstB x) x.2
          show many ≤ 1000000
          omega
  · have hkn : k = n := by omega
    subst hkn
    have hk2 : l.length = k := hl
    cases ok with
    | true =>
      obtain ⟨hgk, hmk⟩ := hg1 rfl
      rw [List.take_of_length_le (by omega)] at hmk
      by_cases hm2 : mny ≤ 20000
      · have hok := GoodK.ok (by rw [hk2]; exact hgk) (by omega)
        have hee : errR l = 0 := by unfold errR; rw [right_of_ok hok]; rfl
        rw [hee]
        repeat' (first
          | (apply JL_nil)
          | ((first | (apply JL_pure) | (apply JL_pure_on; exact rfl; exact gb)); (first
      | (apply as_move; exact OpR_move rfl is_rfl)
      | (apply as_assign; exact OpR_assign rfl is_rfl)
      | (apply as_binOp; exact OpR_ibin rfl rfl rfl is_rfl)
      | (apply as_unOp; exact OpR_not rfl is_rfl)
      | (apply as_pick; exact OpR_pick_f rfl gb rfl is_rfl)); first | (exact rfl; exact rfl) | exact rfl)
          | (apply J_seq)
          | (apply J_region)
          | (apply aj_exit; refine J_exit rfl ?_)
          | (apply J_skip)
          | (apply aj_cond; refine J_dec_f rfl ob ?_))
        refine J_leave Tryz.func71 rfl (.tmp rfl .nil) ⟨rfl, hs.frm.ext⟩
      · have hno : ¬ OkR l := fun ho => hm2 (by rw [hmk]; exact ho.many)
        rw [err_no hno]
        repeat' (first
          | (apply JL_nil)
          | ((first | (apply JL_pure) | (apply JL_pure_on; exact rfl; exact gb)); (first
      | (apply as_move; exact OpR_move rfl is_rfl)
      | (apply as_assign; exact OpR_assign rfl is_rfl)
      | (apply as_binOp; exact OpR_ibin rfl rfl rfl is_rfl)
      | (apply as_unOp; exact OpR_not rfl is_rfl)
      | (apply as_pick; exact OpR_pick_f rfl gb rfl is_rfl)); first | (exact rfl; exact rfl) | exact rfl)
          | (apply J_seq)
          | (apply J_region)
          | (apply aj_exit; refine J_exit rfl ?_)
          | (apply aj_cond; first | refine J_dec_t rfl ob ?_ | refine J_dec_f rfl ob ?_))
        refine J_leave Tryz.func71 rfl (.tmp rfl .nil) ⟨rfl, hs.frm.ext⟩
    | false =>
      rw [err_no (hg2 rfl)]
      repeat' (first
        | (apply JL_nil)
        | ((apply JL_pure); (first
      | (apply as_move; exact OpR_move rfl is_rfl)
      | (apply as_assign; exact OpR_assign rfl is_rfl)
      | (apply as_binOp; exact OpR_ibin rfl rfl rfl is_rfl)
      | (apply as_unOp; exact OpR_not rfl is_rfl)
      | (apply as_pick; exact OpR_pick_t rfl gb rfl is_rfl)); first | (exact rfl; exact rfl) | exact rfl)
        | (apply J_seq)
        | (apply J_region)
        | (apply aj_exit; refine J_exit rfl ?_)
        | (apply al_guard; (refine JL_no rfl gb rfl ?_))
        | (apply aj_cond; first | refine J_dec_f rfl ob ?_ | refine J_cond_t rfl gb ?_))
      refine J_leave Tryz.func71 rfl (.tmp rfl .nil) ⟨rfl, hs.frm.ext⟩
end Go.Eng
/- Referrers: what is told, one by one, and all of it. -/
namespace Go.Eng
open Go.Proofs
set_option linter.unusedSimpArgs false
set_option linter.unusedVariables false
-- HARD 201 6 : 10
def heldX (xs : List HH) (i : Nat) (vals : List Value) (cx : List HP) : Prop := ∃ x, xs[i]? = some x ∧ vals = [.agg (cH x).toArray] ∧ cx = []
theorem IterV.ext {P : Program} {fv : Value} {N : Nat} {X : Nat → List Value → List HP → Prop} {wr w : World} (h : IterV P fv N X wr (fun k => k < wr.heap.size)) (e : Ext wr w) : IterV P fv N X w (fun k => k < w.heap.size) := fun y C Cs w1 c hy hK h0 hh =>
  h y C Cs w1 c hy (fun k hk => ⟨(hK k (Nat.lt_of_lt_of_le hk e.size)).1.trans (e.block k hk), (hK k (Nat.lt_of_lt_of_le hk e.size)).2⟩) h0 hh
theorem of_ok {l : List RH} (h : OkR l) : l = ofH (allH l) := by
  have := right_of_ok h
  unfold rightH at this
  rw [Bool.and_eq_true, Bool.and_eq_true] at this
  exact of_decide_eq_true this.1.2
theorem under_look {l : List RH} (h : OkR l) (n : Int) : underH (allH l) n = lookH l n := by
  conv => rhs; rw [of_ok h]
  rw [look_of]
theorem firsts_get {l : List RH} {k j : Nat} {x : RH} {y : HH} (hx : l[k]? = some x) (hy : x.2[j]? = some y) (hf : fstB x y = true) : (firsts l)[(firsts (l.take k)).length + ((x.2.take j).filter (fstB x)).length]? = some y := by
  have hk := (List.getElem?_eq_some_iff.1 hx).1
  have hj := (List.getElem?_eq_some_iff.1 hy).1
  have e1 : l = l.take k ++ x :: l.drop (k + 1) := by
    have h1 : x = l[k]'hk := (List.getElem?_eq_some_iff.1 hx).2.symm
    rw [h1, ← List.drop_eq_getElem_cons hk, List.take_append_drop]
  have e2 : x.2 = x.2.take j ++ y :: x.2.drop (j + 1) := by
    have h1 : y = x.2[j]'hj := (List.getElem?_eq_some_iff.1 hy).2.symm
    rw [h1, ← List.drop_eq_getElem_cons hj, List.take_append_drop]
  have e3 : firsts l = firsts (l.take k) ++ (x.2.filter (fstB x) ++ firsts (l.drop (k + 1))) := by
    conv => lhs; rw [e1]
    unfold firsts
    rw [List.flatMap_append, List.flatMap_cons]
    rfl
  have e4 : x.2.filter (fstB x) = (x.2.take j).filter (fstB x) ++ (y :: (x.2.drop (j + 1)).filter (fstB x)) := by
    conv => lhs; rw [e2]
    rw [List.filter_append, List.filter_cons, if_pos hf]
  rw [e3, e4, List.getElem?_append_right (by omega), Nat.add_sub_cancel_left, List.append_assoc, List.getElem?_append_right (Nat.le_refl _), Nat.sub_self]
  rfl
theorem firsts_end (l : List RH) {k : Nat} (h : l.length ≤ k) : (firsts (l.take k)).length = (firsts l).length := by rw [List.take_of_length_le h]
theorem slIt {α : Type} {d : Ty α} {a : Option Addr} {n c : Nat} {xs : List α} {wr w W : World} {F : Nat → Prop} {L : List HP} (hK : ∀ k, k < wr.heap.size → w.heap[k]? = wr.heap[k]? ∧ ¬ F k) (h : Sl d All wr a n c xs) (hs : St w F W L) : Sl d All W a n c xs := h.loc (fun k _ hlt => hs.keepK (hK k hlt).1 (hK k hlt).2 hlt)
theorem slIR {α : Type} {d : Ty α} {a : Option Addr} {n c b1 b2 : Nat} {xs : List α} {R : Nat → Prop} {wr w W : World} {F : Nat → Prop} {L : List HP} (hK : ∀ k, (R k ∧ k < wr.heap.size) ∨ k = b1 ∨ k = b2 → w.heap[k]? = wr.heap[k]? ∧ ¬ F k) (h : Sl d R wr a n c xs) (hs : St w F W L) : Sl d All W a n c xs := (h.loc (fun k hk hlt => hs.keepK (hK k (.inl ⟨hk, hlt⟩)).1 (hK k (.inl ⟨hk, hlt⟩)).2 hlt)).weak (fun _ _ => trivial)
attribute [local irreducible] Hold J JL JD JX JXat OpR OpG Ret RetV Is Blk Row MapC
set_option maxRecDepth 100000
set_option maxHeartbeats 1000000
theorem under_r (w : World) (a : Option Addr) (n c : Nat) (x : Int) :
    Ret Tryz.prog 144 #[.slice a n c, .int .i64 x] w fun v w' => ∃ b1 b2, v = .func (.func 203) #[] #[ptr b1, ptr b2] ∧ Fresh w w' [Blk b2 (.cells #[.int .i64 x] 3 (0, 0)), Blk b1 (.cells #[.slice a n c] 22 (0, 0))] := by
  refine Ret_of (l := [_, _]) Tryz.func144 rfl Tryz.ntmps144 (by simp) ?_
  have hs := St.init w
  repeat' (first
    | (apply JL_nil)
    | ((apply JL_pure); (first
      | (apply as_assign; exact OpR_assign rfl is_rfl)
      | (apply as_makeFunc; exact OpR_func rfl is_rfl)); first | (exact rfl; exact rfl) | exact rfl)
    | (apply J_seq)
    | (apply J_region)
    | (apply al_none (t := 2); refine JL_o (by apply as_box; exact OpR_box' hs rfl) rfl rfl ?_; rintro _ _ ⟨b2, rfl, hb2, hs, hE⟩)
    | (apply al_none (t := 3); refine JL_o (by apply as_box; exact OpR_box' hs rfl) rfl rfl ?_; rintro _ _ ⟨b3, rfl, hb3, hs, hE⟩))
  refine J_leave Tryz.func144 rfl (.tmp rfl .nil) ⟨b2, b3, rfl, hs.out (List.Sublist.refl _)⟩
theorem held_r (w : World) (a : Option Addr) (n c : Nat) :
    Ret Tryz.prog 142 #[.slice a n c] w fun v w' => ∃ b1, v = .func (.func 201) #[] #[ptr b1] ∧ Fresh w w' [Blk b1 (.cells #[.slice a n c] 22 (0, 0))] := by
  refine Ret_of (l := [_]) Tryz.func142 rfl Tryz.ntmps142 (by simp) ?_
  have hs := St.init w
  repeat' (first
    | (apply JL_nil)
    | ((apply JL_pure); (first
      | (apply as_assign; exact OpR_assign rfl is_rfl)
      | (apply as_makeFunc; exact OpR_func rfl is_rfl)); first | (exact rfl; exact rfl) | exact rfl)
    | (apply J_seq)
    | (apply J_region)
    | (apply al_none (t := 1); refine JL_o (by apply as_box; exact OpR_box' hs rfl) rfl rfl ?_; rintro _ _ ⟨b1, rfl, hb1, hs, hE⟩))
  refine J_leave Tryz.func142 rfl (.tmp rfl .nil) ⟨b1, rfl, hs.out (List.Sublist.refl _)⟩
theorem underIt_okR (R : Nat → Prop) (wr : World) (b1 b2 : Nat) (a : Option Addr) (n c : Nat) (l : List RH) (x : Int) (h : Sl dRef R wr a n c l) (hn : n ≤ 1000000000) (hok : OkR l) (hb1 : wr.heap[b1]? = some (.cells #[.slice a n c] 22 (0, 0))) (hb2 : wr.heap[b2]? = some (.cells #[.int .i64 x] 3 (0, 0))) :
    IterV Tryz.prog (.func (.func 203) #[] #[ptr b1, ptr b2]) (underH (allH l) x).length (heldX (underH (allH l) x)) wr (fun k => (R k ∧ k < wr.heap.size) ∨ k = b1 ∨ k = b2) := by
  intro y C Cs w c0 hy hK h0 hheld
  refine RetV.closure (avs := [_]) (cap := [_, _]) en203 ?_
  refine Ret_of (l := [_, _, _]) Tryz.func203 rfl Tryz.ntmps203 (by simp) ?_
  have hs := hheld.st
  have hl := h.len
  have hlo := sl_okR (h.weak (R' := All) (fun _ _ => trivial))
  obtain ⟨rs, hr, hm⟩ := Sl.raw (D := rawRef) h
  have hb1l := (Array.getElem?_eq_some_iff.1 hb1).1
  have hb2l := (Array.getElem?_eq_some_iff.1 hb2).1
  have hb1w := (hK b1 (.inr (.inl rfl))).1.trans hb1
  have hb1F := (hK b1 (.inr (.inl rfl))).2
  have hb2w := (hK b2 (.inr (.inr rfl))).1.trans hb2
  have hb2F := (hK b2 (.inr (.inr rfl))).2
  obtain ⟨U, hU⟩ : ∃ U, U = underH (allH l) x := ⟨_, rfl⟩
  rw [← hU] at hy ⊢
  have hUl : U = lookH l x := by rw [hU, under_look hok]
  repeat' (first
    | ((apply al_call 151; refine JL_o (by exact OpR_callF en151 rfl (find_r15 _ a n c l x (slIR hK h hs) hn)) rfl rfl ?_; rintro _ _ ⟨i1, hcut1, rfl, hE⟩; have hs := hs.ext hE; obtain ⟨fb, hfb⟩ : ∃ fb, fb = (decide (i1 < n) && decide (atR l x i1 = 0)) := ⟨_, rfl⟩; rw [← hfb]; have hfx := foundX (R := R) hm hl hfb; cases fb; rotate_left; obtain ⟨hi1, hx1, hr1, hp1x, m1⟩ := hfx rfl; obtain ⟨p, o, rfl⟩ := hr.sl.addr (by omega); rotate_left; (try simp only [List.cons_append, List.nil_append] at hs)))
    | (apply JL_nil)
    | ((apply JL_pure); (first
      | (apply as_load; first | exact OpR_load_cell (hs.keep_cell (cell_blk (off := 0) hb1w rfl) hb1F) rfl is_rfl | exact OpR_load_cell (hs.keep_cell (cell_blk (off := 0) hb2w rfl) hb2F) rfl is_rfl | exact OpR_load_el1 (i := i1) (j := 1) (slIR hK hr hs) hr1 rfl rfl rfl is_rfl)
      | (apply as_move; exact OpR_move rfl is_rfl)
      | (apply as_assign; exact OpR_assign rfl is_rfl)
      | (apply as_fieldAddr; exact OpR_fieldAddr rfl rfl is_rfl)
      | (apply as_unOp; exact OpR_not rfl is_rfl)
      | (apply as_b_len; exact OpR_len rfl is_rfl)
      | (apply as_extract; exact OpR_extract rfl rfl is_rfl)
      | (apply as_indexAddr; exact OpR_indexAddr rfl rfl (by omega) (by omega) is_rfl)); first | (exact rfl; exact rfl) | exact rfl)
    | (apply J_seq)
    | (apply J_region)
    | (apply J_block)
    | (apply J_skip)
    | (apply aj_cond; first | refine J_cond_t rfl gb ?_ | refine J_cond_f rfl gb ?_))
  · have hU0 : U = [] := by rw [hUl]; exact lookH_none (notR (by rw [hl]; exact hcut1) (by rw [hl]; exact hfb.symm) hok.rise)
    subst hU0
    refine J_leave Tryz.func203 rfl .nil ⟨c0, .inl h0, St.turned (M := []) (by simpa using hs)⟩
  · have hUx : U = (l.getD i1 xz).2 := by rw [hUl, ← hp1x]; exact lookH_of hok.rise (List.mem_of_getElem? hx1)
    rw [← hUx] at m1
    have hml := m1.len
    have hmmx : (rs.getD i1 rz).2.2.1 ≤ 9223372036854775807 := by have h1 := m1.le; have h2 := m1.cap; unfold maxLen at h2; omega
    refine J_loopK (α := Nat × List HP) [(0, _), (20, _), (21, _)] (fun g => [(22, .int .i64 g.1)]) (fun g w' => St w (Star c0).foot w' g.2 ∧ C g.1 g.2 ∧ g.1 ≤ (rs.getD i1 rz).2.2.1) (fun g => (rs.getD i1 rz).2.2.1 - g.1) (0, c0) ⟨hs, h0, Nat.zero_le _⟩ (by repeat' (first | exact trivial | exact rfl | apply And.intro)) ?_
    rintro ⟨k, ck⟩ w' ⟨hs, hC, hk⟩ ih
    dsimp only at hs hC hk ih ⊢
    by_cases hlt : k < (rs.getD i1 rz).2.2.1
    · have hu : U[k]? = some (U[k]'(by omega)) := List.getElem?_eq_getElem (by omega)
      obtain ⟨u, hud⟩ : ∃ u, u = U[k]'(by omega) := ⟨_, rfl⟩
      rw [← hud] at hu
      obtain ⟨p2, o2, ha2⟩ := m1.sl.addr (by omega)
      rw [ha2] at m1 ⊢
      repeat' (first
        | ((apply al_none (t := 28); have hs2 : St w (Star c0).foot _ ((ck ++ []) ++ [Blk b7 _]) := (by simpa using hs.perm (List.perm_append_comm (l₁ := [_]) (l₂ := ck))); refine JL_o (OpR_callV rfl rfl (hy k _ [_] _ ck (by omega) hC ⟨_, hu, rfl, rfl⟩ hs2.held hs2.frm)) rfl rfl ?_; rintro _ _ ⟨c', ⟨rfl, hC'⟩ | ⟨rfl, hC'⟩, ht⟩ <;> have hs : St w (Star c0).foot _ c' := (hs2.take ht).sub (List.sublist_append_left _ _)))
        | (apply JL_nil)
        | ((apply JL_pure); (first
      | (apply as_load; first | exact OpR_load' hs rfl rfl is_rfl | exact OpR_load_agg' hs rfl is_rfl | exact OpR_load_el (i := k) (slIR hK m1 hs) hu rfl rfl is_rfl)
      | (apply as_move; exact OpR_move rfl is_rfl)
      | (apply as_add; exact OpR_addn rfl rfl (by omega) (by first | (simp only [Int.reduceAdd]; exact rfl) | exact rfl) is_rfl)
      | (apply as_binOp; exact OpR_ibin rfl rfl rfl is_rfl)
      | (apply as_unOp; exact OpR_not rfl is_rfl)
      | (apply as_indexAddr; exact OpR_indexAddr rfl rfl (by omega) (by omega) is_rfl)); first | (exact rfl; exact rfl) | exact rfl)
        | (apply J_seq)
        | (apply J_region)
        | (apply J_block)
        | (apply J_inBlock)
        | (apply J_skip)
        | (apply al_none (t := 7); refine JL_o (by apply as_alloc; exact OpR_alloc' hs) rfl rfl ?_; rintro _ _ ⟨b7, rfl, hb7, hs, hE⟩)
        | (apply al_unit; refine JL_u (by apply as_store; exact OpR_store' hs rfl rfl rfl) rfl ?_; rintro _ _ ⟨hs, hF⟩)
        | (apply aj_cond; first | refine J_dec_t rfl ob ?_ | refine J_cond_t rfl gb ?_ | refine J_cond_f rfl gb ?_))
      · rw [← ha2]
        refine ih (k + 1, c') _ _ ⟨hs, hC', hlt⟩ (by dsimp only; omega) (by repeat' (first | exact trivial | exact rfl | apply And.intro))
      · refine J_leave Tryz.func203 rfl .nil ⟨c', .inr hC', St.turned (M := []) (by simpa using hs)⟩
    · have hkn : k = U.length := by omega
      repeat' (first
        | (apply JL_nil)
        | ((apply JL_pure); (apply as_binOp; exact OpR_ibin rfl rfl rfl is_rfl); first | (exact rfl; exact rfl) | exact rfl)
        | (apply J_seq)
        | (apply J_region)
        | (apply aj_exit; refine J_exit rfl ?_)
        | (apply aj_cond; refine J_dec_f rfl ob ?_))
      refine J_leave_end Tryz.func203 rfl .nil ⟨ck, .inl (by rw [← hkn]; exact hC), St.turned (M := []) (by simpa using hs)⟩
theorem IterV.weakK {P : Program} {fv : Value} {N : Nat} {X : Nat → List Value → List HP → Prop} {wr : World} {K K' : Nat → Prop} (h : IterV P fv N X wr K) (hk : ∀ k, K k → K' k) : IterV P fv N X wr K' := fun y C Cs w c hy hK h0 hh => h y C Cs w c hy (fun k hkk => hK k (hk k hkk)) h0 hh
theorem underIt_ok (wr : World) (b1 b2 : Nat) (a : Option Addr) (n c : Nat) (l : List RH) (x : Int) (h : Sl dRef All wr a n c l) (hn : n ≤ 1000000000) (hok : OkR l) (hb1 : wr.heap[b1]? = some (.cells #[.slice a n c] 22 (0, 0))) (hb2 : wr.heap[b2]? = some (.cells #[.int .i64 x] 3 (0, 0))) :
    IterV Tryz.prog (.func (.func 203) #[] #[ptr b1, ptr b2]) (underH (allH l) x).length (heldX (underH (allH l) x)) wr (fun k => k < wr.heap.size) :=
  (underIt_okR All wr b1 b2 a n c l x h hn hok hb1 hb2).weakK fun k hk => by
    rcases hk with hk | rfl | rfl
    · exact hk.2
    · exact (Array.getElem?_eq_some_iff.1 hb1).1
    · exact (Array.getElem?_eq_some_iff.1 hb2).1
theorem heldIt_ok (wr : World) (b1 : Nat) (a : Option Addr) (n c : Nat) (l : List RH) (h : Sl dRef All wr a n c l) (hb1 : wr.heap[b1]? = some (.cells #[.slice a n c] 22 (0, 0))) :
    IterV Tryz.prog (.func (.func 201) #[] #[ptr b1]) (firsts l).length (heldX (firsts l)) wr (fun k => k < wr.heap.size) := by
  intro y C Cs w c0 hy hK h0 hheld
  refine RetV.closure (avs := [_]) (cap := [_]) en201 ?_
  refine Ret_of (l := [_, _]) Tryz.func201 rfl Tryz.ntmps201 (by simp) ?_
  have hs := hheld.st
  have hl := h.len
  have hlo := sl_okR h
  obtain ⟨rs, hr, hm⟩ := Sl.raw (D := rawRef) h
  have hmx : n ≤ 9223372036854775807 := by have h1 := h.le; have h2 := h.cap; unfold maxLen at h2; omega
  have hb1l := (Array.getElem?_eq_some_iff.1 hb1).1
  have hb1w := (hK b1 hb1l).1.trans hb1
  have hb1F := (hK b1 hb1l).2
  repeat' (first
    | (apply JL_nil)
    | ((apply JL_pure); (first
      | (apply as_load; first | exact OpR_load_cell (hs.keep_cell (cell_blk (off := 0) hb1w rfl) hb1F) rfl is_rfl)
      | (apply as_move; exact OpR_move rfl is_rfl)
      | (apply as_b_len; exact OpR_len rfl is_rfl)); first | (exact rfl; exact rfl) | exact rfl)
    | (apply J_seq)
    | (apply J_region)
    | (apply J_block))
  refine J_loopK (α := Nat × List HP) [(0, _), (7, _), (8, _)] (fun g => [(9, .int .i64 g.1)]) (fun g w' => St w (Star c0).foot w' g.2 ∧ C (firsts (l.take g.1)).length g.2 ∧ g.1 ≤ n) (fun g => n - g.1) (0, c0) ⟨hs, h0, Nat.zero_le _⟩ (by repeat' (first | exact trivial | exact rfl | apply And.intro)) ?_
  rintro ⟨k, ck⟩ w' ⟨hs, hC, hk⟩ ih
  dsimp only at hs hC hk ih ⊢
  by_cases hlt : k < n
  · obtain ⟨p, o, rfl⟩ := hr.sl.addr (by omega)
    have hx : l[k]? = some (l[k]'(by omega)) := List.getElem?_eq_getElem (by omega)
    obtain ⟨x, hxd⟩ : ∃ x, x = l[k]'(by omega) := ⟨_, rfl⟩
    rw [← hxd] at hx
    obtain ⟨r, hrx, e1, e2⟩ := hm.get hx
    have e1 : r.1 = x.1 := e1
    have mx : Sl dHeld All wr r.2.1 r.2.2.1 r.2.2.2 x.2 := e2
    have hxo := (hlo x (List.mem_of_getElem? hx)).2
    have hxl := mx.len
    have hxmx : r.2.2.1 ≤ 9223372036854775807 := by have h1 := mx.le; have h2 := mx.cap; unfold maxLen at h2; omega
    repeat' (first
      | (apply JL_nil)
      | ((apply JL_pure); (first
      | (apply as_load; first | exact OpR_load' hs rfl rfl is_rfl | exact OpR_load_agg' hs rfl is_rfl | exact OpR_load_el (i := k) (slIt hK hr hs) hrx rfl rfl is_rfl)
      | (apply as_move; exact OpR_move rfl is_rfl)
      | (apply as_fieldAddr; exact OpR_fieldAddr0 rfl rfl is_rfl)
      | (apply as_binOp; exact OpR_ibin rfl rfl rfl is_rfl)
      | (apply as_b_len; exact OpR_len rfl is_rfl)
      | (apply as_indexAddr; exact OpR_indexAddr rfl rfl (by omega) (by omega) is_rfl)); first | (exact rfl; exact rfl) | exact rfl)
      | (apply J_seq)
      | (apply J_region)
      | (apply J_block)
      | (apply J_skip)
      | (apply al_none (t := 4); refine JL_o (by apply as_alloc; exact OpR_alloc' hs) rfl rfl ?_; rintro _ _ ⟨b4, rfl, hb4, hs, hE⟩)
      | (apply al_unit; refine JL_u (by apply as_store; exact OpR_store' hs rfl rfl rfl) rfl ?_; rintro _ _ ⟨hs, hF⟩)
      | (apply aj_cond; refine J_dec_t rfl ob ?_))
    refine J_loopK (α := Nat × List HP) [(0, _), (4, _), (7, _), (8, _), (9, _), (14, _), (15, _)] (fun g => [(16, .int .i64 g.1)]) (fun g w' => St w (Star c0).foot w' (Blk b4 (.cells #[.int .i64 r.1, .slice r.2.1 r.2.2.1 r.2.2.2] 116 (0, 0)) :: g.2) ∧ C ((firsts (l.take k)).length + ((x.2.take g.1).filter (fstB x)).length) g.2 ∧ g.1 ≤ r.2.2.1) (fun g => r.2.2.1 - g.1) (0, ck) ⟨hs, hC, Nat.zero_le _⟩ (by repeat' (first | exact trivial | exact rfl | apply And.intro)) ?_
    rintro ⟨j, cj⟩ w3 ⟨hs, hC, hj⟩ ih2
    dsimp only at hs hC hj ih2 ⊢
    by_cases hlj : j < r.2.2.1
    · obtain ⟨p2, o2, ha2⟩ := mx.sl.addr (by omega)
      have hyy : x.2[j]? = some (x.2[j]'(by omega)) := List.getElem?_eq_getElem (by omega)
      obtain ⟨u, hud⟩ : ∃ u, u = x.2[j]'(by omega) := ⟨_, rfl⟩
      rw [← hud] at hyy
      have huo := hxo u (List.mem_of_getElem? hyy)
      have hfs := congrArg List.length (filter_succ (fstB x) hyy)
      rw [List.length_append] at hfs
      rw [ha2] at mx hs ⊢
      by_cases hc : (partsM u.2).1 = r.1
      · have hfb : fstB x u = true := by unfold fstB; rw [← e1]; exact decide_eq_true hc
        have hfg := firsts_get hx hyy hfb
        have hlN := (List.getElem?_eq_some_iff.1 hfg).1
        rw [hfb] at hfs
        repeat' (first
          | ((apply al_guard; have hs2 : St w (Star c0).foot _ ((cj ++ []) ++ [Blk b6 _, Blk b4 _]) := (by simpa using hs.perm (List.perm_append_comm (l₁ := [_, _]) (l₂ := cj))); refine JL_o_on (t := 30) rfl gb (OpR_callV rfl rfl (hy _ _ [_] _ cj hlN hC ⟨_, hfg, rfl, rfl⟩ hs2.held hs2.frm)) rfl rfl ?_; rintro _ _ ⟨c', ⟨rfl, hC'⟩ | ⟨rfl, hC'⟩, ht⟩ <;> have hs : St w (Star c0).foot _ (c' ++ [Blk b6 _, Blk b4 _]) := hs2.take ht))
          | ((apply ax_c; apply JX_cF 150; exact rfl; (intro W X hN hs; exact OpR_callF en150 rfl (both_r _ u.2 huo.2)); (rintro _ _ _ _ ⟨rfl, hE⟩; first | exact hE | exact Fresh.ext hf); rintro W X _ _ hN hs ⟨rfl, hE⟩; have hs := hs.ext hE; (try simp only [List.cons_append, List.nil_append] at hs); refine JX.at hs ?_))
          | (apply JL_nil)
          | ((first | (apply JL_pure) | (apply JL_pure_on; exact rfl; exact gb) | (apply JX_f; exact rfl; intro W X hs) | (apply JX_f_on; exact rfl; exact rfl; exact gb; intro W X hs)); (first
      | (apply as_load; first | exact OpR_load' hs rfl rfl is_rfl | exact OpR_load_agg' hs rfl is_rfl | exact OpR_load_el (i := j) (slIt hK mx hs) hyy rfl rfl is_rfl)
      | (apply as_move; exact OpR_move rfl is_rfl)
      | (apply as_fieldAddr; exact OpR_fieldAddr0 rfl rfl is_rfl)
      | (apply as_add; exact OpR_addn rfl rfl (by omega) (by first | (simp only [Int.reduceAdd]; exact rfl) | exact rfl) is_rfl)
      | (apply as_binOp; exact OpR_ibin rfl rfl rfl is_rfl)
      | (apply as_unOp; exact OpR_not rfl is_rfl)
      | (apply as_pick; exact OpR_pick_t rfl gb rfl is_rfl)
      | (apply as_indexAddr; exact OpR_indexAddr rfl rfl (by omega) (by omega) is_rfl)
      | (apply as_index; exact OpR_index rfl rfl (by omega) (by omega) rfl is_rfl)); first | (exact rfl; exact rfl) | exact rfl)
          | (apply J_seq)
          | (apply J_region)
          | (apply J_block)
          | (apply J_inBlock)
          | (apply J_skip)
          | (apply al_none (t := 6); refine JL_o (by apply as_alloc; exact OpR_alloc' hs) rfl rfl ?_; rintro _ _ ⟨b6, rfl, hb6, hs, hE⟩)
          | (apply al_unit; refine JL_u (by apply as_store; exact OpR_store' hs rfl rfl rfl) rfl ?_; rintro _ _ ⟨hs, hF⟩)
          | (apply aj_cond; first | refine J_dec_t rfl ob ?_ | refine J_cond_t rfl gb ?_ | refine J_cond_f rfl gb ?_)
          | (apply aj_draw; (refine J_drawX (id := 6) [0, 1, 3, 7, 0, 16, 63, 127, 255, 255, 1023, 2047, 4095] [(0, 0), (1, 0), (4, 0), (5, 0), (2, 1), (3, 0), (6, 0), (7, 0), (8, 0), (9, 0)] [10, 11, 12] hs mixed (by kernel_rfl) (by kernel_rfl) (by kernel_rfl) (by kernel_rfl) (by kernel_rfl) ?_))
          | (refine JX_done (fun W hs => ?_))
          | (apply JD_tail; case' hos => (simp only [List.map_cons, List.map_nil, List.getElem?_toArray, List.getElem?_cons_succ, List.getElem?_cons_zero]; repeat' (first | exact ms_nil | apply ms_cons))))
        · rw [← ha2] at hs ⊢
          have hs3 := hs.perm List.perm_append_comm
          simp only [List.cons_append, List.nil_append] at hs3
          refine ih2 (j + 1, c') _ _ ⟨hs3.sub (List.sublist_cons_self _ _), by rw [hfs]; exact hC', hlj⟩ (by show r.2.2.1 - (j + 1) < r.2.2.1 - j; omega) (by repeat' (first | exact trivial | exact rfl | apply And.intro))
        · refine J_leave Tryz.func201 rfl .nil ⟨c', .inr hC', St.turned (M := _) hs⟩
      · have hfb : fstB x u = false := by unfold fstB; rw [← e1]; exact decide_eq_false hc
        rw [hfb] at hfs
        repeat' (first
          | ((apply ax_c; apply JX_cF 150; exact rfl; (intro W X hN hs; exact OpR_callF en150 rfl (both_r _ u.2 huo.2)); (rintro _ _ _ _ ⟨rfl, hE⟩; first | exact hE | exact Fresh.ext hf); rintro W X _ _ hN hs ⟨rfl, hE⟩; have hs := hs.ext hE; (try simp only [List.cons_append, List.nil_append] at hs); refine JX.at hs ?_))
          | (apply JL_nil)
          | ((first | (apply JL_pure) | (apply JX_f; exact rfl; intro W X hs)); (first
      | (apply as_load; first | exact OpR_load' hs rfl rfl is_rfl | exact OpR_load_agg' hs rfl is_rfl | exact OpR_load_el (i := j) (slIt hK mx hs) hyy rfl rfl is_rfl)
      | (apply as_move; exact OpR_move rfl is_rfl)
      | (apply as_fieldAddr; exact OpR_fieldAddr0 rfl rfl is_rfl)
      | (apply as_add; exact OpR_addn rfl rfl (by omega) (by first | (simp only [Int.reduceAdd]; exact rfl) | exact rfl) is_rfl)
      | (apply as_binOp; exact OpR_ibin rfl rfl rfl is_rfl)
      | (apply as_pick; exact OpR_pick_f rfl gb rfl is_rfl)
      | (apply as_indexAddr; exact OpR_indexAddr rfl rfl (by omega) (by omega) is_rfl)
      | (apply as_index; exact OpR_index rfl rfl (by omega) (by omega) rfl is_rfl)); first | (exact rfl; exact rfl) | exact rfl)
          | (apply J_seq)
          | (apply J_region)
          | (apply J_block)
          | (apply J_inBlock)
          | (apply J_skip)
          | (apply al_none (t := 6); refine JL_o (by apply as_alloc; exact OpR_alloc' hs) rfl rfl ?_; rintro _ _ ⟨b6, rfl, hb6, hs, hE⟩)
          | (apply al_unit; refine JL_u (by apply as_store; exact OpR_store' hs rfl rfl rfl) rfl ?_; rintro _ _ ⟨hs, hF⟩)
          | (apply al_guard; (refine JL_no rfl gb rfl ?_))
          | (apply aj_cond; first | refine J_dec_t rfl ob ?_ | refine J_cond_f rfl gb ?_)
          | (apply aj_draw; (refine J_drawX (id := 6) [0, 1, 3, 7, 0, 16, 63, 127, 255, 255, 1023, 2047, 4095] [(0, 0), (1, 0), (4, 0), (5, 0), (2, 1), (3, 0), (6, 0), (7, 0), (8, 0), (9, 0)] [10, 11, 12] hs mixed (by kernel_rfl) (by kernel_rfl) (by kernel_rfl) (by kernel_rfl) (by kernel_rfl) ?_))
          | (refine JX_done (fun W hs => ?_))
          | (refine JX_f_off rfl rfl gb rfl ?_)
          | (apply JD_tail; case' hos => (simp only [List.map_cons, List.map_nil, List.getElem?_toArray, List.getElem?_cons_succ, List.getElem?_cons_zero]; repeat' (first | exact ms_nil | apply ms_cons))))
        rw [← ha2] at hs ⊢
        refine ih2 (j + 1, cj) _ _ ⟨hs.sub (List.sublist_cons_self _ _), by rw [hfs]; exact hC, hlj⟩ (by show r.2.2.1 - (j + 1) < r.2.2.1 - j; omega) (by repeat' (first | exact trivial | exact rfl | apply And.intro))
    · rw [List.take_of_length_le (l := x.2) (by omega)] at hC
      repeat' (first
        | (apply JL_nil)
        | ((apply JL_pure); (first
      | (apply as_move; exact OpR_move rfl is_rfl)
      | (apply as_add; exact OpR_addn rfl rfl (by omega) (by first | (simp only [Int.reduceAdd]; exact rfl) | exact rfl) is_rfl)
      | (apply as_binOp; exact OpR_ibin rfl rfl rfl is_rfl)); first | (exact rfl; exact rfl) | exact rfl)
        | (apply J_seq)
        | (apply J_region)
        | (apply J_inBlock)
        | (apply aj_exit; refine J_exit rfl ?_)
        | (apply aj_cond; refine J_dec_f rfl ob ?_))
      refine ih (k + 1, cj) _ _ ⟨hs.sub (List.sublist_cons_self _ _), by rw [firsts_succ hx]; exact hC, hlt⟩ (by show n - (k + 1) < n - k; omega) (by repeat' (first | exact trivial | exact rfl | apply And.intro))
  · rw [firsts_end l (by omega)] at hC
    repeat' (first
      | (apply JL_nil)
      | ((apply JL_pure); (apply as_binOp; exact OpR_ibin rfl rfl rfl is_rfl); first | (exact rfl; exact rfl) | exact rfl)
      | (apply J_seq)
      | (apply J_region)
      | (apply aj_exit; refine J_exit rfl ?_)
      | (apply aj_cond; refine J_dec_f rfl ob ?_))
    refine J_leave_end Tryz.func201 rfl .nil ⟨ck, .inl hC, St.turned (M := []) (by simpa using hs)⟩
theorem appSeqH_r (w : World) (fv : Value) (hfun : IsFun Tryz.prog fv) (xs : List HH) (it : IterV Tryz.prog fv xs.length (heldX xs) w (fun k => k < w.heap.size)) (hn : xs.length ≤ 4000000) :
    Ret Tryz.prog 202 #[.slice none 0 0, fv] w fun v w' => ∃ a' c', v = .slice a' xs.length c' ∧ Fresh w w' [RowH a' xs.length c' xs] := by
  obtain ⟨g, cap, rfl, hfe⟩ := hfun
  refine Ret_of (l := [_, _]) Tryz.func202 rfl Tryz.ntmps202 (by simp) ?_
  have hs := St.init w
  repeat' (first
    | (apply JL_nil)
    | ((apply JL_pure); (first
      | (apply as_move; exact OpR_move rfl is_rfl)
      | (apply as_assign; exact OpR_assign rfl is_rfl)); first | (exact rfl; exact rfl) | exact rfl)
    | (apply J_seq)
    | (apply J_region)
    | (apply J_block)
    | (apply al_none (t := 2); refine JL_o (by apply as_box; exact OpR_box' hs rfl) rfl rfl ?_; rintro _ _ ⟨b2, rfl, hb2, hs, hE⟩))
  have hs : St w NoF _ [Blk b2 (.cells #[.slice none 0 0] 23 (0, 0)), Row none 0 0 31 2 []] := (hs.nilRow 31 2).sel [1, 0] (by decide)
  have hs : St w NoF _ ([_, _] ++ []) := hs
  refine J_range (ps := [7]) hs rfl ⟨g, cap, rfl, hfe⟩ it
    (fun k A => ∃ a' c', A = [Blk b2 (.cells #[.slice a' k c'] 23 (0, 0)), RowH a' k c' (xs.take k)]) (fun _ _ => False) ⟨_, _, rfl⟩ ?_ (by decide) ?_ ?_ ?_ (fun _ _ _ _ h => h.elim)
  · intro k hk
    have hold : ∀ k, k < w.heap.size → _ := fun k hk => hs.frm.old k hk id
    exact ⟨hold k hk, fun hf => by have := hs.foot0 k hf; omega, Nat.lt_of_lt_of_le hk hs.frm.size⟩
  · rintro i vals cx ⟨_, _, rfl, _⟩; rfl
  · rintro l D tm k w1 A1 cx vals hD hDl hk ⟨a', c', rfl⟩ ⟨u, hu, rfl, rfl⟩ hh -
    have hs : St _ _ _ [_, _, _] := hh.st
    have htk : xs.take (k + 1) = xs.take k ++ [u] := by
      rw [List.take_add_one, hu]; rfl
    repeat' (first
      | ((refine J_beginRound hs (fun w2 hs => ?_)))
      | ((apply al_none (t := 11); refine JL_o (by apply as_b_append; exact OpR_append (xs := encL cH (xs.take k)) (news := cH u) hs rfl rfl (src_blk2 (hs.blk (b := b10))) plain_blk rfl (by omega) (by unfold maxLen; omega)) rfl rfl ?_; rintro _ _ ⟨a3, c3, rfl, hs, hF, hnil⟩))
      | (apply JL_nil)
      | ((apply JL_pure); (apply as_load; first | exact OpR_load' hs rfl rfl is_rfl | exact OpR_load_agg' hs rfl is_rfl); first | (exact rfl; exact rfl) | exact rfl)
      | (apply J_region)
      | (apply J_block)
      | (apply J_inBlock)
      | (apply al_none (t := 5); refine JL_o (by apply as_alloc; exact OpR_alloc' hs) rfl rfl ?_; rintro _ _ ⟨b5, rfl, hb5, hs, hE⟩)
      | (apply al_none (t := 10); refine JL_o (by apply as_buildSlice; exact OpR_buildSlice hs rfl (by omega) rfl) rfl rfl ?_; rintro _ _ ⟨b10, rfl, hb10, hs, hE⟩)
      | (apply al_unit; refine JL_u (by apply as_store; exact OpR_store' hs rfl rfl rfl) rfl ?_; rintro _ _ ⟨hs, hF⟩))
    rw [encH_snoc, ← htk] at hs
    have hs : St _ _ _ [_, _, _] := hs.sel [2, 3, 4] (by decide)
    refine J_roundEnd hs (fun w3 hs => .inl ⟨rfl, _, ⟨a3, c3, rfl⟩, St.turned (M := []) hs⟩)
  · rintro w2 D A2 ⟨a', c', rfl⟩ hs
    have hs : St _ _ _ [_, _, _] := hs
    have e : xs.take xs.length = xs := List.take_of_length_le (Nat.le_refl _)
    rw [e] at hs
    repeat' (first
      | ((refine J_retL (Lv_coll hs (fun w3 hs => Lv_nil Tryz.func202 rfl (.tmp rfl .nil) ⟨a', c', rfl, ?_⟩))))
      | (apply JL_nil)
      | ((apply JL_pure); (first
      | (apply as_assign; exact OpR_assign rfl is_rfl)
      | (apply as_load; exact OpR_load' hs rfl rfl is_rfl)); first | (exact rfl; exact rfl) | exact rfl)
      | (apply J_seq)
      | (apply J_region)
      | (apply J_inBlock))
    exact Fresh.ext_l (Ext.refl _) ((hs.to [RowH a' xs.length c' xs]).out (List.Sublist.refl _))
theorem collectH_r (w : World) (fv : Value) (hfun : IsFun Tryz.prog fv) (xs : List HH) (it : IterV Tryz.prog fv xs.length (heldX xs) w (fun k => k < w.heap.size)) (hn : xs.length ≤ 4000000) :
    Ret Tryz.prog 143 #[fv] w fun v w' => ∃ a' c', v = .slice a' xs.length c' ∧ Fresh w w' [RowH a' xs.length c' xs] := by
  refine Ret_of (l := [_]) Tryz.func143 rfl Tryz.ntmps143 (by simp) ?_
  have hs := St.init w
  repeat' (first
    | ((apply al_call 202; refine JL_o (by exact OpR_callF en202 rfl (appSeqH_r _ fv hfun xs (it.ext hs.frm.ext) hn)) rfl rfl ?_; rintro _ _ ⟨az, cz, rfl, hf⟩; have hs := hs.fresh hf; (try simp only [List.cons_append, List.nil_append] at hs)))
    | (apply JL_nil)
    | ((apply JL_pure); (first
      | (apply as_move; exact OpR_move rfl is_rfl)
      | (apply as_assign; exact OpR_assign rfl is_rfl)); first | (exact rfl; exact rfl) | exact rfl)
    | (apply J_seq)
    | (apply J_region))
  refine J_leave Tryz.func143 rfl (.tmp rfl .nil) ⟨_, _, rfl, hs.out (List.Sublist.refl _)⟩
end Go.Eng
