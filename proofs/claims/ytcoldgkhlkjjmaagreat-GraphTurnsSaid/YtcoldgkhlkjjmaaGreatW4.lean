/- The texts G1, G2, G3, G4, G5, G6, G7, L35, L36, G8, joined: what of them serves. -/
import Derived.Test.YtcoldgkhlkjjmaaGreatW3
section
namespace Go.Eng
open Go.Proofs
set_option linter.unusedSimpArgs false
set_option linter.unusedVariables false
abbrev dId : Ty Int := tInt .u64
abbrev cId (x : Int) : List Value := [.int .u64 x]
abbrev okId (x : Int) : Prop := inK .u64 x
abbrev RowU (a : Option Addr) (n c : Nat) (xs : List Int) : HP := Row a n c 29 1 (encL cId xs)
theorem slU {w0 w : World} {F : Nat → Prop} {L : List HP} {a : Option Addr} {n c : Nat} {xs : List Int} (hs : St w0 F w L) (hm : RowU a n c xs ∈ L) (hok : ∀ x ∈ xs, okId x) : Sl dId All w a n c xs :=
  (RowV.slF (d := dId) (hs.all _ hm) (by decide) hok).weak (fun _ _ => trivial)
theorem jW {R : Nat → Prop} {w : World} {a : Option Addr} {n c : Nat} {xs : List Int} (h : Sl dId R w a n c xs) : ∀ x ∈ xs, okId x := fun x hx => by
  obtain ⟨k, hk⟩ := List.mem_iff_getElem?.1 hx
  exact (h.elF hk).1
theorem pL {l : List Int} {x : Int} {k : Nat} (h : l[k]? = some x) : l.getD k 0 = x := by rw [List.getD_eq_getElem?_getD, h]; rfl
abbrev iJ (l : List Int) : Prop := l.Pairwise (· < ·)
theorem adjT {l : List Int} (h : ∀ i (hi : i + 1 < l.length), l[i] < l[i + 1]) : iJ l := by
  refine List.pairwise_iff_getElem.2 fun i j hi hj hij => ?_
  induction j with
  | zero => omega
  | succ j ih =>
    by_cases e : i = j
    · subst e; exact h i hj
    · exact Int.lt_trans (ih (by omega) (by omega)) (h j hj)
theorem typeB_iff {l : List Int} : dF l = true ↔ l.length ≤ 12 ∧ iJ l ∧ ∀ x ∈ l, mayM x = true := by
  rw [typeB_true]
  constructor
  · rintro ⟨h1, h2⟩
    refine ⟨h1, adjT fun i hi => ?_, fun x hx => ?_⟩
    · have := h2 (i + 1) hi
      unfold okAt at this
      rw [Bool.and_eq_true, Bool.or_eq_true, decide_eq_true_eq, decide_eq_true_eq] at this
      have h3 := this.2.resolve_left (by omega)
      rw [Nat.add_sub_cancel, pL (List.getElem?_eq_getElem (by omega)), pL (List.getElem?_eq_getElem hi)] at h3
      exact h3
    · obtain ⟨i, hi⟩ := List.mem_iff_getElem?.1 hx
      have := h2 i (List.getElem?_eq_some_iff.1 hi).1
      unfold okAt at this
      rw [Bool.and_eq_true, pL hi] at this
      exact this.1
  · rintro ⟨h1, h2, h3⟩
    refine ⟨h1, fun i hi => ?_⟩
    unfold okAt
    rw [Bool.and_eq_true, Bool.or_eq_true, decide_eq_true_eq, decide_eq_true_eq, pL (List.getElem?_eq_getElem hi)]
    refine ⟨h3 _ (List.getElem_mem hi), ?_⟩
    by_cases e : i = 0
    · exact .inl e
    · refine .inr ?_
      rw [pL (List.getElem?_eq_getElem (by omega : i - 1 < l.length))]
      exact List.pairwise_iff_getElem.1 h2 (i - 1) i (by omega) hi (by omega)
theorem gU : ∀ {l1 l2 : List Int}, iJ l1 → iJ l2 → (∀ x, x ∈ l1 ↔ x ∈ l2) → l1 = l2
  | [], [], _, _, _ => rfl
  | [], y :: ys, _, _, h => absurd ((h y).2 List.mem_cons_self) (by simp)
  | x :: xs, [], _, _, h => absurd ((h x).1 List.mem_cons_self) (by simp)
  | x :: xs, y :: ys, h1, h2, h => by
    rw [iJ, List.pairwise_cons] at h1 h2
    have e : x = y := by
      rcases List.mem_cons.1 ((h x).1 List.mem_cons_self) with e | e
      · exact e
      · rcases List.mem_cons.1 ((h y).2 List.mem_cons_self) with e2 | e2
        · exact e2.symm
        · have a1 := h2.1 x e
          have a2 := h1.1 y e2
          omega
    subst e
    congr 1
    refine gU h1.2 h2.2 fun z => ?_
    constructor
    · intro hz
      rcases List.mem_cons.1 ((h z).1 (List.mem_cons_of_mem _ hz)) with e | e
      · have := h1.1 z hz; omega
      · exact e
    · intro hz
      rcases List.mem_cons.1 ((h z).2 (List.mem_cons_of_mem _ hz)) with e | e
      · have := h2.1 z hz; omega
      · exact e
def wiT (l : List Int) (id : Int) : List Int := l.filter (fun x => decide (x < id)) ++ id :: l.filter (fun x => decide (id < x))
def insT (l : List Int) (id : Int) : List Int := if id ∈ l then l else wiT l id
def outT (l : List Int) (id : Int) : List Int := l.filter fun x => decide (x ≠ id)
theorem wiT_mem {l : List Int} {id x : Int} : x ∈ wiT l id ↔ x = id ∨ x ∈ l := by
  unfold wiT
  rw [List.mem_append, List.mem_cons, List.mem_filter, List.mem_filter, decide_eq_true_eq, decide_eq_true_eq]
  constructor
  · rintro (h | h | h)
    · exact .inr h.1
    · exact .inl h
    · exact .inr h.1
  · rintro (h | h)
    · exact .inr (.inl h)
    · rcases Int.lt_trichotomy x id with e | e | e
      · exact .inl ⟨h, e⟩
      · exact .inr (.inl e)
      · exact .inr (.inr ⟨h, e⟩)
theorem rJ {l : List Int} {id : Int} (h : iJ l) : iJ (wiT l id) := by
  unfold wiT iJ
  rw [List.pairwise_append, List.pairwise_cons]
  refine ⟨h.sublist List.filter_sublist, ⟨fun x hx => of_decide_eq_true (List.mem_filter.1 hx).2, h.sublist List.filter_sublist⟩, fun x hx y hy => ?_⟩
  have h1 : x < id := of_decide_eq_true (List.mem_filter.1 hx).2
  rcases List.mem_cons.1 hy with e | e
  · omega
  · have h2 : id < y := of_decide_eq_true (List.mem_filter.1 e).2
    omega
theorem wiT_self {l : List Int} {id : Int} (h : iJ l) (hm : id ∈ l) : wiT l id = l := gU (rJ h) h fun x => by
  rw [wiT_mem]
  exact ⟨fun e => e.elim (fun e => e ▸ hm) (fun e => e), .inr⟩
theorem pI {l : List Int} {id : Int} (h : iJ l) : insT l id = wiT l id := by
  unfold insT
  by_cases e : id ∈ l
  · rw [if_pos e, wiT_self h e]
  · rw [if_neg e]
theorem insT_mem {l : List Int} {id x : Int} : x ∈ insT l id ↔ x = id ∨ x ∈ l := by
  unfold insT
  by_cases e : id ∈ l
  · rw [if_pos e]; exact ⟨.inr, fun h => h.elim (fun h => h ▸ e) (fun h => h)⟩
  · rw [if_neg e, wiT_mem]
theorem outT_mem {l : List Int} {id x : Int} : x ∈ outT l id ↔ x ∈ l ∧ x ≠ id := by unfold outT; rw [List.mem_filter, decide_eq_true_eq]
theorem pA {l : List Int} {id : Int} (h : iJ l) : iJ (outT l id) := h.sublist List.filter_sublist
theorem rY (l : List Int) (id : Int) : (outT l id).length ≤ l.length := List.length_filter_le _ _
theorem mW {l : List Int} {id : Int} (hn : id ∉ l) : (wiT l id).length = l.length + 1 := by
  unfold wiT
  rw [List.length_append, List.length_cons]
  have h : ∀ l : List Int, id ∉ l → (l.filter (fun x => decide (x < id))).length + (l.filter (fun x => decide (id < x))).length = l.length := by
    intro l
    induction l with
    | nil => intro _; rfl
    | cons y l ih =>
      intro hn
      have h1 : y ≠ id := fun e => hn (e ▸ List.mem_cons_self)
      have h2 := ih (fun h => hn (List.mem_cons_of_mem _ h))
      rw [List.filter_cons, List.filter_cons, List.length_cons]
      by_cases e : y < id
      · rw [if_pos (decide_eq_true e), if_neg (by simp; omega), List.length_cons]; omega
      · rw [if_neg (by simpa using e), if_pos (decide_eq_true (by omega)), List.length_cons]; omega
  have := h l hn
  omega
theorem insT_len (l : List Int) (id : Int) : (insT l id).length ≤ l.length + 1 := by
  unfold insT
  by_cases e : id ∈ l
  · rw [if_pos e]; omega
  · rw [if_neg e, mW e]; omega
structure CutI (l : List Int) (id : Int) (i : Nat) : Prop where
  le : i ≤ l.length
  lo : ∀ j x, l[j]? = some x → j < i → x < id
  hi : ∀ j x, l[j]? = some x → i ≤ j → id ≤ x
theorem CutI.take {l : List Int} {id : Int} {i : Nat} (h : CutI l id i) : l.take i = l.filter (fun x => decide (x < id)) := by
  conv => rhs; rw [← List.take_append_drop i l]
  rw [List.filter_append, List.filter_eq_self.2, List.filter_eq_nil_iff.2, List.append_nil]
  · intro x hx
    obtain ⟨j, hj⟩ := List.mem_iff_getElem?.1 hx
    rw [List.getElem?_drop] at hj
    have := h.hi _ x hj (by omega)
    simp; omega
  · intro x hx
    obtain ⟨j, hj⟩ := List.mem_iff_getElem?.1 hx
    have hji : j < i := by have := (List.getElem?_eq_some_iff.1 hj).1; rw [List.length_take] at this; omega
    rw [List.getElem?_take_of_lt hji] at hj
    exact decide_eq_true (h.lo _ x hj hji)
theorem CutI.drop {l : List Int} {id : Int} {i : Nat} (h : CutI l id i) : l.drop i = l.filter (fun x => decide (id ≤ x)) := by
  conv => rhs; rw [← List.take_append_drop i l]
  rw [List.filter_append, List.filter_eq_nil_iff.2, List.filter_eq_self.2, List.nil_append]
  · intro x hx
    obtain ⟨j, hj⟩ := List.mem_iff_getElem?.1 hx
    rw [List.getElem?_drop] at hj
    exact decide_eq_true (h.hi _ x hj (by omega))
  · intro x hx
    obtain ⟨j, hj⟩ := List.mem_iff_getElem?.1 hx
    have hji : j < i := by have := (List.getElem?_eq_some_iff.1 hj).1; rw [List.length_take] at this; omega
    rw [List.getElem?_take_of_lt hji] at hj
    have := h.lo _ x hj hji
    simp; omega
theorem CutI.there {l : List Int} {id : Int} {i : Nat} (h : CutI l id i) (hr : iJ l) : id ∈ l ↔ l[i]? = some id := by
  constructor
  · intro hm
    obtain ⟨j, hj⟩ := List.mem_iff_getElem?.1 hm
    have hjl := (List.getElem?_eq_some_iff.1 hj).1
    have hij : i ≤ j := Decidable.by_contra fun e => by have := h.lo j id hj (by omega); omega
    by_cases e : i = j
    · subst e; exact hj
    · have hi : l[i]? = some (l[i]'(by omega)) := List.getElem?_eq_getElem (by omega)
      have h1 := h.hi i _ hi (Nat.le_refl _)
      have h2 := List.pairwise_iff_getElem.1 hr i j (by omega) hjl (by omega)
      rw [(List.getElem?_eq_some_iff.1 hj).2] at h2
      omega
  · exact List.mem_of_getElem?
theorem cut_ins {l : List Int} {id : Int} {i : Nat} (h : CutI l id i) (hn : id ∉ l) : l.take i ++ [id] ++ l.drop i = wiT l id := by
  unfold wiT
  rw [h.take, h.drop, List.append_assoc]
  congr 1
  show id :: _ = _
  congr 1
  refine List.filter_congr fun x hx => ?_
  rw [decide_eq_decide]
  have : x ≠ id := fun e => hn (e ▸ hx)
  omega
theorem aBp {l : List Int} {id : Int} {i : Nat} (h : CutI l id i) (hr : iJ l) (hm : id ∈ l) : l.take i ++ l.drop (i + 1) = outT l id := by
  have hi := (h.there hr).1 hm
  have hil := (List.getElem?_eq_some_iff.1 hi).1
  have hd : l.drop i = id :: l.drop (i + 1) := by rw [List.drop_eq_getElem_cons hil, (List.getElem?_eq_some_iff.1 hi).2]
  have hr2 : iJ (l.take i ++ l.drop (i + 1)) := by
    refine hr.sublist ?_
    conv => rhs; rw [← List.take_append_drop i l, hd]
    exact List.Sublist.append_left (List.sublist_cons_self _ _) _
  refine gU hr2 (pA hr) fun x => ?_
  rw [outT_mem, List.mem_append]
  have hall : x ∈ l ↔ x ∈ l.take i ∨ x = id ∨ x ∈ l.drop (i + 1) := by
    conv => lhs; rw [← List.take_append_drop i l, hd]
    rw [List.mem_append, List.mem_cons]
  constructor
  · rintro (e | e)
    · have h1 : x < id := by rw [h.take] at e; exact of_decide_eq_true (List.mem_filter.1 e).2
      exact ⟨hall.2 (.inl e), by omega⟩
    · have h2 : iJ (id :: l.drop (i + 1)) := hd ▸ hr.sublist (List.drop_sublist _ _)
      have := (List.pairwise_cons.1 h2).1 x e
      exact ⟨hall.2 (.inr (.inr e)), by omega⟩
  · rintro ⟨e1, e2⟩
    rcases hall.1 e1 with e | e | e
    · exact .inl e
    · exact absurd e e2
    · exact .inr e
def gP (l : List Int) (id : Int) : Int := if dF l then (if mayM id then (if 12 < (insT l id).length then 6 else 0) else 2) else 130
def outC (l : List Int) (id : Int) : Int := if dF l then (if id ∈ l then 0 else 4) else 130
def fX (l : List Int) (id : Int) : List Int := if gP l id = 0 then insT l id else []
def outL (l : List Int) (id : Int) : List Int := if outC l id = 0 then outT l id else []
def hasT (l : List Int) (id : Int) : Bool := dF l && decide (id ∈ l)
end Go.Eng
end
section
namespace Go.Eng
open Go.Proofs
set_option linter.unusedSimpArgs false
set_option linter.unusedVariables false
def idX (xs : List Int) (i : Nat) (vals : List Value) (cx : List HP) : Prop := ∃ x, xs[i]? = some x ∧ vals = [.int .u64 x] ∧ cx = []
theorem gY {xs vs : List Value} (sz : Nat) (h : vs.length = xs.length) : bR xs (0 * sz) vs = vs := by
  unfold bR
  rw [Nat.zero_mul, List.take_zero, List.nil_append, Nat.zero_add, h, List.drop_length, List.append_nil]
theorem xA (xs : List Int) : (encL cId xs).length = xs.length := by have := eK (d := dId) xs; rw [this]; exact Nat.mul_one _
theorem encI_one (xs : List Int) : ∀ u ∈ encL cId xs, u.oneCell' = true := fun u hu => by
  obtain ⟨x, _, hx⟩ := List.mem_flatMap.1 hu
  rw [List.mem_singleton.1 hx]; rfl
theorem uC (xs : List Int) (i : Nat) : (encL cId xs).take i = encL cId (xs.take i) := by have := iE (d := dId) xs i; rw [show i * (dId).sz = i from Nat.mul_one i] at this; exact this.symm
theorem uD (xs : List Int) (i : Nat) : (encL cId xs).drop i = encL cId (xs.drop i) := by have := mO (d := dId) xs i; rw [show i * (dId).sz = i from Nat.mul_one i] at this; exact this.symm
theorem dU {α : Type} {l : List α} {k : Nat} {x : α} (p : α → Bool) (hx : l[k]? = some x) : (l.take (k + 1)).filter p = (l.take k).filter p ++ if p x then [x] else [] := by
  rw [List.take_add_one, hx, List.filter_append]
  congr 1
  by_cases c : p x = true
  · rw [if_pos c]; simp [c]
  · rw [if_neg c]; simp [c]
theorem slOldI {R : Nat → Prop} {w : World} {a : Option Addr} {n c : Nat} {l : List Int} (h : Sl dId R w a n c l) : Sl dId (fun k => k < w.heap.size) w a n c l :=
  h.foc.weak (fun k hk => Sl.below (d := dId) (by decide) h k hk)
theorem srcCut {w : World} {b o m i : Nat} {sz : Nat} {xs ys : List Value} {n : Nat} (h : Src w (some ⟨b, o, none⟩) n sz xs) (hy : ys = (xs.drop (i * sz)).take (m * sz)) (hi : i + m ≤ n) : Src w (some ⟨b, o + i * sz, none⟩) m sz ys := by
  obtain ⟨h1, _, h3, h4⟩ := h
  have hm : i * sz + m * sz ≤ n * sz := by rw [← Nat.add_mul]; exact Nat.mul_le_mul_right _ hi
  refine ⟨?_, (fun e => nomatch e), fun u hu => ?_, fun b' o' hb j u hj => ?_⟩
  · rw [hy, List.length_take, List.length_drop]; omega
  · rw [hy] at hu; exact h3 u (List.mem_of_mem_drop (List.mem_of_mem_take hu))
  · cases hb
    rw [hy, List.getElem?_take] at hj
    split at hj
    · rw [List.getElem?_drop] at hj
      have := h4 b o rfl _ u hj
      rw [Nat.add_assoc]; exact this
    · cases hj
theorem srcTakeS {w : World} {a : Option Addr} {n i sz : Nat} {xs : List Value} (h : Src w a n sz xs) (hp : 0 < n → iF a) (hi : i ≤ n) : Src w a i sz (xs.take (i * sz)) ∧ (0 < i → iF a) := by
  have hm : i * sz ≤ n * sz := Nat.mul_le_mul_right _ hi
  refine ⟨⟨by rw [List.length_take, h.1]; omega, fun e => by have := h.2.1 e; omega, fun u hu => h.2.2.1 u (List.mem_of_mem_take hu), fun b o hb j u hj => ?_⟩, fun h0 => hp (by omega)⟩
  rw [List.getElem?_take] at hj
  split at hj
  · exact h.2.2.2 b o hb j u hj
  · cases hj
theorem srcDropS {w : World} {a a2 : Option Addr} {n c i sz : Nat} {xs : List Value} (h : Src w a n sz xs) (hp : 0 < n → iF a) (hi : i ≤ n) (hnc : n ≤ c) (ha : (if ((c : Nat) : Int) = ((i : Nat) : Int) then a else a.map (·.add (((i : Nat) : Int).toNat * sz))) = a2) : Src w a2 (n - i) sz (xs.drop (i * sz)) ∧ (0 < n - i → iF a2) := by
  by_cases e : i = n
  · subst e
    rw [List.drop_of_length_le (by rw [h.1]; exact Nat.le_refl _), Nat.sub_self]
    refine ⟨⟨by simp, fun _ => rfl, (fun u hu => by cases hu), fun b o _ j u hj => by simp at hj⟩, fun h => absurd h (Nat.lt_irrefl 0)⟩
  · obtain ⟨ad, rfl⟩ : ∃ ad, a = some ad := by
      cases a with
      | none => exact absurd (h.2.1 rfl) (by omega)
      | some ad => exact ⟨_, rfl⟩
    have hs : ad.spot = none := hp (by omega) _ rfl
    obtain ⟨b, o, s⟩ := ad
    have hs : s = none := hs
    subst hs
    rw [if_neg (by omega)] at ha
    have e2 : a2 = some ⟨b, o + i * sz, none⟩ := by rw [← ha]; simp [dV]
    subst e2
    refine ⟨srcCut h ?_ (by omega), cJ⟩
    rw [List.take_of_length_le]
    rw [List.length_drop, h.1, Nat.sub_mul]
    exact Nat.le_refl _
attribute [local irreducible] Hold J JL JD JX JXat OpR OpG Ret RetV Is Blk Row
set_option maxRecDepth 100000
set_option maxHeartbeats 1000000
theorem wT (w : World) (x y : Int) : Ret Tryz.prog 224 #[.int .u64 x, .int .u64 y] w fun v w' => v = .bool (decide (x < y)) ∧ Ext w w' := by
  refine bI (l := [_, _]) Tryz.func224 rfl Tryz.ntmps224 (by simp) ?_
  have hs := St.init w
  repeat' (first | ((apply aL 199; refine JL_o (by exact aA en199 rfl (sD _ x)) rfl rfl ?_; rintro _ _ ⟨rfl, hE⟩; have hs := hs.ext hE; (try simp only [zcc] at hs))) | (apply aH) | ((first | (apply aC) | (apply bA; exact rfl; exact gb)); exact zop; first | (exact rfl; exact rfl) | exact rfl) | (apply aQ) | (apply aB) | (apply bK; (refine cY rfl gb rfl ?_)))
  refine aM Tryz.func224 rfl (.tmp rfl .nil) ⟨rfl, hs.frm.ext⟩
theorem snanId_r (w : World) (x : Int) : Ret Tryz.prog 225 #[.int .u64 x] w fun v w' => v = .bool false ∧ Ext w w' := by
  refine bI (l := [_]) Tryz.func225 rfl Tryz.ntmps225 (by simp) ?_
  have hs := St.init w
  repeat' (first | (apply aH) | ((apply aC); exact zop; first | (exact rfl; exact rfl) | exact rfl) | (apply aQ) | (apply aB))
  refine aM Tryz.func225 rfl (.tmp rfl .nil) ⟨by simp [kJ], hs.frm.ext⟩
theorem xD (w : World) (a : Option Addr) (n c : Nat) (xs : List Int) (x : Int) (h : Sl dId All w a n c xs) (hr : iJ xs) (hn : n ≤ 1000000) :
    Ret Tryz.prog 174 #[.slice a n c, .int .u64 x] w fun v w' => ∃ i : Nat, CutI xs x i ∧ v = .tuple #[.int .i64 i, .bool (decide (x ∈ xs))] ∧ Ext w w' := by
  refine bI (l := [_, _]) Tryz.func174 rfl Tryz.ntmps174 (by simp) ?_
  have hs := St.init w
  have hl := h.len
  repeat' (first | (apply aH) | ((apply aC); exact zop; first | (exact rfl; exact rfl) | exact rfl) | (apply aQ) | (apply aB) | (apply aN))
  refine bT (α := Nat × Nat) [(0, _), (1, _), (6, _)] (fun g => [(7, .int .i64 g.1), (8, .int .i64 g.2)]) (fun g w' => St w NoF w' [] ∧ g.1 ≤ g.2 ∧ g.2 ≤ n ∧ (∀ j y, xs[j]? = some y → j < g.1 → y < x) ∧ (∀ j y, xs[j]? = some y → g.2 ≤ j → x ≤ y)) (fun g => g.2 - g.1) (0, n) ⟨hs, Nat.zero_le _, Nat.le_refl _, (fun j y _ hj => absurd hj (Nat.not_lt_zero _)), (fun j y hy hj => by have := (List.getElem?_eq_some_iff.1 hy).1; dsimp only at hj; omega)⟩ zss ?_
  rintro ⟨i, j⟩ w2 ⟨hs1, hij, hjn, hlo_, hhi⟩ ih
  dsimp only at hs1 hij hjn hlo_ hhi ih ⊢
  by_cases hlt : i < j
  · obtain ⟨p, o, rfl⟩ := h.sl.addr (by omega)
    have hs : St w NoF w2 [] := hs1
    obtain ⟨m, hm_⟩ : ∃ m, m = (i + j) / 2 := ⟨_, rfl⟩
    have hmi : i ≤ m := by omega
    have hmj : m < j := by omega
    have hmv : ((i : Int) + (j : Int)) / 2 = (m : Int) := by omega
    have hy : xs[m]? = some (xs[m]'(by omega)) := List.getElem?_eq_getElem (by omega)
    obtain ⟨y, hyd⟩ : ∃ y, y = xs[m]'(by omega) := ⟨_, rfl⟩
    rw [← hyd] at hy
    have hmono : ∀ (p q : Nat) (u v : Int), xs[p]? = some u → xs[q]? = some v → p < q → u < v := fun p q u v hu hv hpq => by
      have := List.pairwise_iff_getElem.1 hr p q (List.getElem?_eq_some_iff.1 hu).1 (List.getElem?_eq_some_iff.1 hv).1 hpq
      rwa [(List.getElem?_eq_some_iff.1 hu).2, (List.getElem?_eq_some_iff.1 hv).2] at this
    by_cases hc : y < x
    · repeat' (first | ((apply aL 224; refine JL_o (by exact aA en224 rfl (wT _ y x)) rfl rfl ?_; rintro _ _ ⟨rfl, hE⟩; have hs := hs.ext hE; (try simp only [zcc] at hs))) | (apply aH) | ((apply aC); (first | (apply aT; exact aX (i := m) (j := 0) (h.st hs) hy rfl rfl rfl aI) | (apply cI; exact nM (n := 1) rfl rfl (by decide) rfl (by rw [show ((i : Int) + (j : Int)) / 2 ^ 1 = (m : Int) from hmv]; exact aI)) | exact zop); first | (exact rfl; exact rfl) | exact rfl) | (apply aQ) | (apply aB) | (apply aN) | (apply aW) | (apply aV) | (apply aG; refine aS rfl ob ?_))
      refine ih (m + 1, j) _ _ ⟨hs, by show m + 1 ≤ j; omega, hjn, fun q u hu hq => ?_, hhi⟩ (by show j - (m + 1) < j - i; omega) zss
      by_cases e : q = m
      · subst e; rw [hy] at hu; cases hu; exact hc
      · have := hmono q m u y hu hy (by dsimp only at hq; omega); omega
    · repeat' (first | ((apply aL 224; refine JL_o (by exact aA en224 rfl (wT _ y x)) rfl rfl ?_; rintro _ _ ⟨rfl, hE⟩; have hs := hs.ext hE; (try simp only [zcc] at hs))) | (apply aH) | ((apply aC); (first | (apply aT; exact aX (i := m) (j := 0) (h.st hs) hy rfl rfl rfl aI) | (apply cI; exact nM (n := 1) rfl rfl (by decide) rfl (by rw [show ((i : Int) + (j : Int)) / 2 ^ 1 = (m : Int) from hmv]; exact aI)) | exact zop); first | (exact rfl; exact rfl) | exact rfl) | (apply aQ) | (apply aB) | (apply aN) | (apply aW) | (apply aV) | (apply aG; first | refine aS rfl ob ?_ | refine aZ rfl ob ?_))
      refine ih (i, m) _ _ ⟨hs, hmi, by show m ≤ n; omega, hlo_, fun q u hu hq => ?_⟩ (by show m - i < j - i; omega) zss
      by_cases e : q = m
      · subst e; rw [hy] at hu; cases hu; omega
      · have := hmono m q y u hy hu (by dsimp only at hq; omega); omega
  · have hs : St w NoF w2 [] := hs1
    have hij2 : i = j := by omega
    subst hij2
    have hcut : CutI xs x i := ⟨by omega, hlo_, hhi⟩
    by_cases hin : i < n
    · obtain ⟨p, o, rfl⟩ := h.sl.addr (by omega)
      have hs : St w NoF w2 [] := hs1
      have hy : xs[i]? = some (xs[i]'(by omega)) := List.getElem?_eq_getElem (by omega)
      obtain ⟨y, hyd⟩ : ∃ y, y = xs[i]'(by omega) := ⟨_, rfl⟩
      rw [← hyd] at hy
      by_cases hyx : y = x
      · have hm : x ∈ xs := hyx ▸ List.mem_of_getElem? hy
        repeat' (first | (apply aH) | ((first | (apply aC) | (apply bA; exact rfl; exact gb)); (first | (apply aT; exact aX (i := i) (j := 0) (h.st hs) hy rfl rfl rfl aI) | exact zop); first | (exact rfl; exact rfl) | exact rfl) | (apply aQ) | (apply aB) | (apply bG; refine bP rfl ?_) | (apply bK; first | (refine qC rfl rfl ?_) | (refine cY rfl gb rfl ?_)) | (apply aG; refine aZ rfl ob ?_))
        refine aM Tryz.func174 rfl (.tmp rfl (.tmp rfl .nil)) ⟨i, hcut, by rw [decide_eq_true hm]; rfl, hs.frm.ext⟩
      · have hm : x ∉ xs := fun hm => hyx (by have := (hcut.there hr).1 hm; rw [hy] at this; exact Option.some.inj this)
        repeat' (first | ((apply bE 225; refine bM rfl gb (by exact aA en225 rfl (snanId_r _ _)) rfl rfl ?_; rintro _ _ ⟨rfl, hE⟩; have hs := hs.ext hE; (try simp only [zcc] at hs))) | (apply aH) | ((first | (apply aC) | (apply bA; exact rfl; exact gb)); (first | (apply aT; exact aX (i := i) (j := 0) (h.st hs) hy rfl rfl rfl aI) | exact zop); first | (exact rfl; exact rfl) | exact rfl) | (apply aQ) | (apply aB) | (apply bG; refine bP rfl ?_) | (apply bK; (refine cY rfl gb rfl ?_)) | (apply aG; refine aZ rfl ob ?_))
        refine aM Tryz.func174 rfl (.tmp rfl (.tmp rfl .nil)) ⟨i, hcut, by rw [decide_eq_false hm]; rfl, hs.frm.ext⟩
    · have hm : x ∉ xs := fun hm => by have := (List.getElem?_eq_some_iff.1 ((hcut.there hr).1 hm)).1; omega
      repeat' (first | (apply aH) | ((apply aC); exact zop; first | (exact rfl; exact rfl) | exact rfl) | (apply aQ) | (apply aB) | (apply bG; refine bP rfl ?_) | (apply bK; first | (refine qC rfl rfl ?_) | (refine cY rfl gb rfl ?_)) | (apply aG; refine aZ rfl ob ?_))
      refine aM Tryz.func174 rfl (.tmp rfl (.tmp rfl .nil)) ⟨i, hcut, by rw [decide_eq_false hm]; rfl, hs.frm.ext⟩
theorem zV (w : World) (a : Option Addr) (n c : Nat) (xs : List Int) (h : Sl dId All w a n c xs) (hn : n ≤ 1000000) :
    Ret Tryz.prog 116 #[.slice a n c] w fun v w' => ∃ a', v = .slice a' n n ∧ Fresh w w' [RowU a' n n xs] := by
  refine bI (l := [_]) Tryz.func116 rfl Tryz.ntmps116 (by simp) ?_
  have hs := St.init w
  obtain ⟨hsrc, hpl, _⟩ := h.srcF
  have hl := h.len
  have hE0 : (encL cId xs).length = n := by rw [xA]; exact hl
  repeat' (first | ((apply aF (t := 6); refine JL_o (by apply eP; exact iU hs rfl rfl (by omega) (by omega)) rfl rfl ?_; rintro _ _ ⟨b8, rfl, hb8, hs, hE⟩; have hs := hs.toRow 0 n n 1 (Nat.le_refl _) (by unfold maxLen; omega) (by simp [madeCells]) rfl)) | ((apply aF (t := 9); refine JL_o (by apply fH; exact fJ (sz := 1) (off := 0) (vs := encL cId xs) (a := some ⟨b8, 0, none⟩) (n := n) (c := n) (by omega) hs rfl rfl (fun _ => rfl) (by omega) (by rw [Nat.min_self]; exact Src.st hsrc hs) (by rw [Nat.min_self]; exact hpl)) rfl rfl ?_; rintro _ _ ⟨rfl, hs, hF⟩; rw [gY 1 (by rw [hE0]; simp [madeCells])] at hs)) | (apply aH) | ((apply aC); exact zop; first | (exact rfl; exact rfl) | exact rfl) | (apply aQ) | (apply aB))
  refine aM Tryz.func116 rfl (.tmp rfl .nil) ⟨_, rfl, hs.out (List.Sublist.refl _)⟩
theorem mR (w : World) (a : Option Addr) (n c : Nat) (xs : List Int) (h : Sl dId All w a n c xs) (hn : n ≤ 1000000) :
    Ret Tryz.prog 114 #[.slice a n c] w fun v w' => ∃ a', v = .slice a' n n ∧ Fresh w w' [RowU a' n n xs] := by
  refine bI (l := [_]) Tryz.func114 rfl Tryz.ntmps114 (by simp) ?_
  have hs := St.init w
  obtain ⟨hsrc, hpl, _⟩ := h.srcF
  have hl := h.len
  have hE0 : (encL cId xs).length = n := by rw [xA]; exact hl
  repeat' (first | ((apply aF (t := 6); refine JL_o (by apply eP; exact iU hs rfl rfl (by omega) (by omega)) rfl rfl ?_; rintro _ _ ⟨b8, rfl, hb8, hs, hE⟩; have hs := hs.toRow 0 n n 1 (Nat.le_refl _) (by unfold maxLen; omega) (by simp [madeCells]) rfl)) | ((apply aF (t := 9); refine JL_o (by apply fH; exact fJ (sz := 1) (off := 0) (vs := encL cId xs) (a := some ⟨b8, 0, none⟩) (n := n) (c := n) (by omega) hs rfl rfl (fun _ => rfl) (by omega) (by rw [Nat.min_self]; exact Src.st hsrc hs) (by rw [Nat.min_self]; exact hpl)) rfl rfl ?_; rintro _ _ ⟨rfl, hs, hF⟩; rw [gY 1 (by rw [hE0]; simp [madeCells])] at hs)) | (apply aH) | ((apply aC); exact zop; first | (exact rfl; exact rfl) | exact rfl) | (apply aQ) | (apply aB))
  refine aM Tryz.func114 rfl (.tmp rfl .nil) ⟨_, rfl, hs.out (List.Sublist.refl _)⟩
theorem yV (w : World) (a : Option Addr) (n c k : Nat) (X : List Value) (hh : Held w [Row a n c 29 1 X]) (hk : k < n) (hn : n ≤ 1000000) (h1 : ∀ u ∈ X, u.oneCell' = true) :
    Ret Tryz.prog 175 #[.slice a n c, .int .i64 k, .int .i64 ((k : Int) + 1)] w fun v w' => v = .slice a (n - 1) c ∧ Turn w [Row a n c 29 1 X] w' [Row a (n - 1) c 29 1 (X.take (k * 1) ++ X.drop ((k + 1) * 1))] := by
  refine bI (l := [_, _, _]) Tryz.func175 rfl Tryz.ntmps175 (by simp) ?_
  have hs := hh.st
  have hrow := hs.row a n c
  have hl := hrow.len
  have hcap := hrow.2.1
  have hcm := hrow.2.2.1
  unfold maxLen at hcm
  obtain ⟨b, o, rfl⟩ := hrow.some (by omega)
  have hm : k + (n - (k + 1)) = n - 1 := by omega
  by_cases hcq : k + 1 < c
  · by_cases hkn : k + 1 < n
    · repeat' (first | ((apply aF (t := 13); refine aC (v := .slice (some ⟨b, o + k * 1, none⟩) 1 (n - k)) (by apply dA; exact dO (kl := .i64) (kh := .i64) (km := .i64) (a' := some ⟨b, o + k * 1, none⟩) (l := (k : Nat)) (h := (k : Int) + 1) (m := (n : Nat)) rfl (.inr ⟨_, rfl, rfl⟩) (.inr ⟨_, rfl, rfl⟩) (.inr ⟨_, rfl, rfl⟩) (by omega) (by omega) (by omega) (by omega) (by rw [if_neg (by omega)]; simp [dV]) (by rw [show ((k : Int) + 1 - (k : Int)).toNat = 1 by omega, show ((n : Int) - (k : Int)).toNat = n - k by omega]; exact aI)) rfl rfl ?_)) | ((apply aF (t := 26); have hsrc := (hs.row (some ⟨b, o, none⟩) n c).srcDrop (k + 1) (n - (k + 1)) (zs := X.drop ((k + 1) * 1)) (by rw [List.take_of_length_le (by rw [List.length_drop]; omega)]) (fun u hu => h1 u (List.mem_of_mem_drop hu)) (by omega) (by omega); simp only [Option.map_some, dV] at hsrc; have hs := hs.cutRow k c (by omega) (by omega) (Nat.le_refl _); refine JL_o (by apply bW; exact lR (n := k) (m := n - (k + 1)) hs rfl rfl hsrc cJ (by omega)) rfl rfl ?_; rintro _ _ ⟨rfl, hs, hF⟩)) | ((apply aF (t := 31); rw [hm] at hs ⊢; obtain ⟨ys, hyl, hs⟩ := hs.growRow n (by omega) (by omega); refine aC (v := .slice (some ⟨b, o + (n - 1) * 1, none⟩) 1 (c - (n - 1))) (by apply dA; exact dO (kl := .i64) (kh := .i64) (km := .i64) (a' := some ⟨b, o + (n - 1) * 1, none⟩) (l := (n - 1 : Nat)) (h := (n : Nat)) (m := (c : Nat)) rfl (.inr ⟨_, rfl, rfl⟩) (.inr ⟨_, rfl, rfl⟩) (.inl ⟨rfl, rfl⟩) (by omega) (by omega) (by omega) (by omega) (by rw [if_neg (by omega)]; simp [dV]) (by rw [show ((n : Int) - ((n - 1 : Nat) : Int)).toNat = 1 by omega, show ((c : Int) - ((n - 1 : Nat) : Int)).toNat = c - (n - 1) by omega]; exact aI)) rfl rfl ?_)) | ((apply aU; refine JL_u (by apply jH; exact lA (a := some ⟨b, o, none⟩) (off := n - 1) (n := n) (c := c) (sz := 1) hs rfl rfl (by decide) (fun _ => by simp [dV]) (by omega)) rfl ?_; rintro _ _ ⟨rfl, ⟨zs, hzl, hs⟩, hF⟩)) | (apply aH) | ((first | (apply aC) | (apply JX_f; exact rfl; intro W X hs)); (first | (apply dA; first | exact dL (q := k) rfl rfl (by omega) (by omega) aI | exact fP (q := k + 1) rfl rfl (by omega) (by omega) (by omega) (by omega) aI) | exact zop); first | (exact rfl; exact rfl) | exact rfl) | (apply aQ) | (apply aB) | (apply aV) | (apply aG; refine aZ rfl ob ?_) | (apply bV; (refine bQ (id := 5) [0, 0, 3, 0, 0, 24, 63, 127] [(0, 0), (1, 0), (2, 0), (3, 0), (4, 0), (5, 0)] [6, 7] hs cQ (by kernel_rfl) (by kernel_rfl) (by kernel_rfl) (by kernel_rfl) (by kernel_rfl) ?_)) | (refine bU (fun W hs => ?_)) | (apply eS; case' hos => (simp only [List.map_cons, List.map_nil, List.getElem?_toArray, List.getElem?_cons_succ, List.getElem?_cons_zero]; repeat' (first | exact fS | apply eR))))
      have hs := hs.cutRow (n - 1) c (by omega) (by omega) (Nat.le_refl _)
      rw [gX _ _ _ (by simp only [List.length_append, List.length_take, List.length_drop, hl]; omega), List.take_append_of_le_length (by simp only [List.length_append, List.length_take, List.length_drop, hl]; omega), List.take_of_length_le (by simp only [List.length_append, List.length_take, List.length_drop, hl]; omega)] at hs
      refine aM Tryz.func175 rfl (.tmp rfl .nil) ⟨rfl, St.turned (M := []) hs⟩
    · repeat' (first | ((apply aF (t := 13); refine aC (v := .slice (some ⟨b, o + k * 1, none⟩) 1 (n - k)) (by apply dA; exact dO (kl := .i64) (kh := .i64) (km := .i64) (a' := some ⟨b, o + k * 1, none⟩) (l := (k : Nat)) (h := (k : Int) + 1) (m := (n : Nat)) rfl (.inr ⟨_, rfl, rfl⟩) (.inr ⟨_, rfl, rfl⟩) (.inr ⟨_, rfl, rfl⟩) (by omega) (by omega) (by omega) (by omega) (by rw [if_neg (by omega)]; simp [dV]) (by rw [show ((k : Int) + 1 - (k : Int)).toNat = 1 by omega, show ((n : Int) - (k : Int)).toNat = n - k by omega]; exact aI)) rfl rfl ?_)) | ((apply aF (t := 26); have hs := hs.cutRow k c (by omega) (by omega) (Nat.le_refl _); refine JL_o (by apply bW; exact lR (n := k) (m := n - (k + 1)) (news := X.drop ((k + 1) * 1)) hs rfl rfl ⟨by rw [List.length_drop]; omega, (fun _ => by omega), (fun u hu => h1 u (List.mem_of_mem_drop hu)), (fun b o hb j u hj => by rw [List.getElem?_drop, List.getElem?_eq_none (by omega)] at hj; cases hj)⟩ (fun h => absurd h (by omega)) (by omega)) rfl rfl ?_; rintro _ _ ⟨rfl, hs, hF⟩)) | ((apply aF (t := 31); rw [hm] at hs ⊢; obtain ⟨ys, hyl, hs⟩ := hs.growRow n (by omega) (by omega); refine aC (v := .slice (some ⟨b, o + (n - 1) * 1, none⟩) 1 (c - (n - 1))) (by apply dA; exact dO (kl := .i64) (kh := .i64) (km := .i64) (a' := some ⟨b, o + (n - 1) * 1, none⟩) (l := (n - 1 : Nat)) (h := (n : Nat)) (m := (c : Nat)) rfl (.inr ⟨_, rfl, rfl⟩) (.inr ⟨_, rfl, rfl⟩) (.inl ⟨rfl, rfl⟩) (by omega) (by omega) (by omega) (by omega) (by rw [if_neg (by omega)]; simp [dV]) (by rw [show ((n : Int) - ((n - 1 : Nat) : Int)).toNat = 1 by omega, show ((c : Int) - ((n - 1 : Nat) : Int)).toNat = c - (n - 1) by omega]; exact aI)) rfl rfl ?_)) | ((apply aU; refine JL_u (by apply jH; exact lA (a := some ⟨b, o, none⟩) (off := n - 1) (n := n) (c := c) (sz := 1) hs rfl rfl (by decide) (fun _ => by simp [dV]) (by omega)) rfl ?_; rintro _ _ ⟨rfl, ⟨zs, hzl, hs⟩, hF⟩)) | (apply aH) | ((first | (apply aC) | (apply JX_f; exact rfl; intro W X hs)); (first | (apply dA; first | exact dL (q := k) rfl rfl (by omega) (by omega) aI | exact fP (q := k + 1) rfl rfl (by omega) (by omega) (by omega) (by omega) aI) | exact zop); first | (exact rfl; exact rfl) | exact rfl) | (apply aQ) | (apply aB) | (apply aV) | (apply aG; refine aZ rfl ob ?_) | (apply bV; (refine bQ (id := 5) [0, 0, 3, 0, 0, 24, 63, 127] [(0, 0), (1, 0), (2, 0), (3, 0), (4, 0), (5, 0)] [6, 7] hs cQ (by kernel_rfl) (by kernel_rfl) (by kernel_rfl) (by kernel_rfl) (by kernel_rfl) ?_)) | (refine bU (fun W hs => ?_)) | (apply eS; case' hos => (simp only [List.map_cons, List.map_nil, List.getElem?_toArray, List.getElem?_cons_succ, List.getElem?_cons_zero]; repeat' (first | exact fS | apply eR))))
      have hs := hs.cutRow (n - 1) c (by omega) (by omega) (Nat.le_refl _)
      rw [gX _ _ _ (by simp only [List.length_append, List.length_take, List.length_drop, hl]; omega), List.take_append_of_le_length (by simp only [List.length_append, List.length_take, List.length_drop, hl]; omega), List.take_of_length_le (by simp only [List.length_append, List.length_take, List.length_drop, hl]; omega)] at hs
      refine aM Tryz.func175 rfl (.tmp rfl .nil) ⟨rfl, St.turned (M := []) hs⟩
  · have hcn : c = n := by omega
    have hkn : k + 1 = n := by omega
    subst hcn
    repeat' (first | ((apply aF (t := 13); refine aC (v := .slice (some ⟨b, o + k * 1, none⟩) 1 (c - k)) (by apply dA; exact dO (kl := .i64) (kh := .i64) (km := .i64) (a' := some ⟨b, o + k * 1, none⟩) (l := (k : Nat)) (h := (k : Int) + 1) (m := (c : Nat)) rfl (.inr ⟨_, rfl, rfl⟩) (.inr ⟨_, rfl, rfl⟩) (.inr ⟨_, rfl, rfl⟩) (by omega) (by omega) (by omega) (by omega) (by rw [if_neg (by omega)]; simp [dV]) (by rw [show ((k : Int) + 1 - (k : Int)).toNat = 1 by omega, show ((c : Int) - (k : Int)).toNat = c - k by omega]; exact aI)) rfl rfl ?_)) | ((apply aF (t := 26); have hs := hs.cutRow k c (by omega) (by omega) (Nat.le_refl _); refine JL_o (by apply bW; exact lR (n := k) (m := c - (k + 1)) (news := X.drop ((k + 1) * 1)) hs rfl rfl ⟨by rw [List.length_drop]; omega, (fun _ => by omega), (fun u hu => h1 u (List.mem_of_mem_drop hu)), (fun b o hb j u hj => by rw [List.getElem?_drop, List.getElem?_eq_none (by omega)] at hj; cases hj)⟩ (fun h => absurd h (by omega)) (by omega)) rfl rfl ?_; rintro _ _ ⟨rfl, hs, hF⟩)) | ((apply aF (t := 31); rw [hm] at hs ⊢; obtain ⟨ys, hyl, hs⟩ := hs.growRow c (by omega) (by omega); refine aC (v := .slice (some ⟨b, o + (c - 1) * 1, none⟩) 1 1) (by apply dA; exact dO (kl := .i64) (kh := .i64) (km := .i64) (a' := some ⟨b, o + (c - 1) * 1, none⟩) (l := (c - 1 : Nat)) (h := (c : Nat)) (m := (c : Nat)) rfl (.inr ⟨_, rfl, rfl⟩) (.inr ⟨_, rfl, rfl⟩) (.inl ⟨rfl, rfl⟩) (by omega) (by omega) (by omega) (by omega) (by rw [if_neg (by omega)]; simp [dV]) (by rw [show ((c : Int) - ((c - 1 : Nat) : Int)).toNat = 1 by omega]; exact aI)) rfl rfl ?_)) | ((apply aU; refine JL_u (by apply jH; exact lA (a := some ⟨b, o, none⟩) (off := c - 1) (n := c) (c := c) (sz := 1) hs rfl rfl (by decide) (fun _ => by simp [dV]) (by omega)) rfl ?_; rintro _ _ ⟨rfl, ⟨zs, hzl, hs⟩, hF⟩)) | (apply aH) | ((first | (apply aC) | (apply JX_f; exact rfl; intro W X hs)); (first | (apply dA; first | exact dL (q := k) rfl rfl (by omega) (by omega) aI | exact dO (kl := .i64) (kh := .i64) (km := .i64) (l := (k + 1 : Nat)) (m := c) (h := (c : Nat)) rfl (.inr ⟨_, rfl, by rfl⟩) (.inl ⟨rfl, rfl, rfl⟩) (.inl ⟨rfl, rfl⟩) (by omega) (by omega) (by omega) (by omega) rfl (by rw [show ((c : Int) - ((k + 1 : Nat) : Int)).toNat = c - (k + 1) by omega]; exact aI)) | exact zop); first | (exact rfl; exact rfl) | exact rfl) | (apply aQ) | (apply aB) | (apply aV) | (apply aG; refine aZ rfl ob ?_) | (apply bV; (refine bQ (id := 5) [0, 0, 3, 0, 0, 24, 63, 127] [(0, 0), (1, 0), (2, 0), (3, 0), (4, 0), (5, 0)] [6, 7] hs cQ (by kernel_rfl) (by kernel_rfl) (by kernel_rfl) (by kernel_rfl) (by kernel_rfl) ?_)) | (refine bU (fun W hs => ?_)) | (apply eS; case' hos => (simp only [List.map_cons, List.map_nil, List.getElem?_toArray, List.getElem?_cons_succ, List.getElem?_cons_zero]; repeat' (first | exact fS | apply eR))))
    have hs := hs.cutRow (c - 1) c (by omega) (by omega) (Nat.le_refl _)
    rw [gX _ _ _ (by simp only [List.length_append, List.length_take, List.length_drop, hl]; omega), List.take_append_of_le_length (by simp only [List.length_append, List.length_take, List.length_drop, hl]; omega), List.take_of_length_le (by simp only [List.length_append, List.length_take, List.length_drop, hl]; omega)] at hs
    refine aM Tryz.func175 rfl (.tmp rfl .nil) ⟨rfl, St.turned (M := []) hs⟩
theorem zO (w : World) (a : Option Addr) (n c : Nat) (xs : List Int) (x : Int) (h : Sl dId All w a n c xs) (hr : iJ xs) (hx : okId x) (hn : n ≤ 1000000) :
    Ret Tryz.prog 117 #[.slice a n c, .int .u64 x] w fun v w' => ∃ a' c', v = .slice a' (insT xs x).length c' ∧ Sl dId All w' a' (insT xs x).length c' (insT xs x) ∧ Ext w w' := by
  refine bI (l := [_, _]) Tryz.func117 rfl Tryz.ntmps117 (by simp) ?_
  have hs := St.init w
  have hl := h.len
  have hle := h.le
  have hcap := h.cap
  unfold maxLen at hcap
  obtain ⟨hsrc, hpl, hok⟩ := h.srcF
  by_cases hm : x ∈ xs
  · have hmd : decide (x ∈ xs) = true := decide_eq_true hm
    have hi : insT xs x = xs := if_pos hm
    repeat' (first | ((apply aL 174; refine JL_o (by exact aA en174 rfl (xD _ a n c xs x (h.st hs) hr hn)) rfl rfl ?_; rintro _ _ ⟨i, hcut, rfl, hE⟩; rw [hmd]; have hs := hs.ext hE; (try simp only [zcc] at hs))) | (apply aH) | ((apply aC); exact zop; first | (exact rfl; exact rfl) | exact rfl) | (apply aQ) | (apply aB) | (apply aG; refine bB rfl gb ?_))
    rw [hi, hl]
    refine aM Tryz.func117 rfl (.tmp rfl .nil) ⟨a, c, rfl, h.st hs, hs.frm.ext⟩
  · have hmd : decide (x ∈ xs) = false := decide_eq_false hm
    have hi : insT xs x = wiT xs x := if_neg hm
    have hwl := mW hm
    repeat' (first | ((apply aL 174; refine JL_o (by exact aA en174 rfl (xD _ a n c xs x (h.st hs) hr hn)) rfl rfl ?_; rintro _ _ ⟨i, hcut, rfl, hE⟩; rw [hmd]; have hs := hs.ext hE; (try simp only [zcc] at hs))) | ((apply xH 4; refine hold ?_)) | (apply aH) | ((apply aC); exact zop; first | (exact rfl; exact rfl) | exact rfl) | (apply aQ) | (apply aB) | (apply aV) | (apply aG; refine bD rfl gb ?_))
    refine oQ ?_
    have hile := hcut.le
    have hins := cut_ins hcut hm
    obtain ⟨a24, ha24⟩ : ∃ z, (if ((c : Nat) : Int) = ((i : Nat) : Int) then a else a.map (·.add (((i : Nat) : Int).toNat * 1))) = z := ⟨_, rfl⟩
    obtain ⟨s1, p1⟩ := srcTakeS (i := i) hsrc hpl (by omega)
    obtain ⟨s2, p2⟩ := srcDropS (i := i) hsrc hpl (by omega) hle ha24
    have s1 : Src w a i 1 ((encL cId xs).take (i * 1)) := s1
    have s2 : Src w a24 (n - i) 1 ((encL cId xs).drop (i * 1)) := s2
    rw [Nat.mul_one, uC] at s1
    rw [Nat.mul_one, uD] at s2
    repeat' (first | ((apply ax_c; apply JX_c (t := 21); exact rfl; (intro W X hN hs; apply bW; exact wE (xs := encL cId (xs.take i)) (news := [.int .u64 x]) hs rfl rfl (Src.st s1 hs) p1 (lC (hs.blk (b := b20)) rfl) cJ (by omega) rfl (by omega) (by unfold maxLen; omega)); (rintro _ _ _ _ ⟨_, _, rfl, _, hE⟩; exact Ext.rl hE); exact rfl; rintro W X _ _ hN hs ⟨b21, c21, rfl, hs, hE⟩; refine JX.at hs ?_)) | ((apply aF (t := 25); refine JL_o (by apply bW; exact cF (xs := encL cId (xs.take i) ++ [.int .u64 x]) (news := encL cId (xs.drop i)) hs rfl rfl (Src.st s2 hs) p2 rfl (by omega) (by unfold maxLen; omega)) rfl rfl ?_; rintro _ _ ⟨a5, c5, rfl, hs, hF, hnil⟩)) | (apply aH) | ((first | (apply aC) | (apply aCi; exact rfl; intro W hs)); (first | (apply dA; first | exact dO (kl := .i64) (kh := .i64) (km := .i64) (a' := a) (l := 0) (h := (i : Int)) (m := (i : Int)) rfl (.inl ⟨rfl, rfl⟩) (.inr ⟨_, rfl, rfl⟩) (.inr ⟨_, rfl, rfl⟩) (by omega) (by omega) (by omega) (by omega) (by split; rfl; exact zB _) (by rw [Int.sub_zero, Int.toNat_natCast]; exact aI) | exact dO (kl := .i64) (kh := .i64) (km := .i64) (a' := a24) (l := (i : Int)) (h := (n : Int)) (m := (c : Int)) rfl (.inr ⟨_, rfl, rfl⟩) (.inl ⟨rfl, rfl, rfl⟩) (.inl ⟨rfl, rfl⟩) (by omega) (by omega) (by omega) (by omega) ha24 (by rw [show ((n : Int) - (i : Int)).toNat = n - i by omega, show ((c : Int) - (i : Int)).toNat = c - i by omega]; exact aI)) | exact zop); first | (exact rfl; exact rfl) | exact rfl) | (apply ax_n; refine JX_n (t := 20) rfl (fun W L hs => by apply bJ; exact bF hs rfl (by omega) rfl) rfl ?_) | (apply ax_k; (first | refine JX_k (t := 20) ?_ | refine JX_k2 (t := 20) rfl ?_); intro b20) | (apply bV; (refine J_drawZ (id := 4) [0, 0, 0, 7, 0, 16, 63, 0, 0, 384, 1023, 2047] [(0, 0), (1, 0), (2, 0), (3, 0), (4, 0), (7, 0), (8, 0), (9, 0), (5, 2), (5, 3), (6, 1)] [10, 11] hs cQ (by kernel_rfl) (by kernel_rfl) (by kernel_rfl) (by kernel_rfl) (by kernel_rfl) ?_; intro NZ hNZ)) | (refine bU (fun W hs => ?_)) | (apply eS; case' hos => (simp only [List.map_cons, List.map_nil, List.getElem?_toArray, List.getElem?_cons_succ, List.getElem?_cons_zero]; repeat' (first | exact fS | apply eR))))
    have hwe : encL cId (xs.take i) ++ [.int .u64 x] ++ encL cId (xs.drop i) = encL cId (wiT xs x) := by rw [← hins, fL, fL]; rfl
    rw [hwe] at hs
    have hlen : i + 1 + (n - i) = (insT xs x).length := by rw [hi, hwl]; omega
    rw [← hi, hlen] at hs
    rw [hlen]
    have hsl := slU (L := _ :: _) hs (List.Mem.head _) (fun y hy => by rcases insT_mem.1 hy with e | e; exact e ▸ hx; exact hok y e)
    refine aM Tryz.func117 rfl (.tmp rfl .nil) ⟨_, _, rfl, hsl, hs.frm.ext⟩
theorem lU (w : World) (a : Option Addr) (n c : Nat) (xs : List Int) (x : Int) (h : Sl dId All w a n c xs) (hx : okId x) :
    Ret Tryz.prog 45 #[.slice a n c, .int .u64 x] w fun v w' => ∃ a', v = .tuple #[.slice a' (fX xs x).length (fX xs x).length, .int .i64 (gP xs x)] ∧ Fresh w w' [RowU a' (fX xs x).length (fX xs x).length (fX xs x)] := by
  refine bI (l := [_, _]) Tryz.func45 rfl Tryz.ntmps45 (by simp) ?_
  have hs := St.init w
  have hl := h.len
  cases h1 : dF xs with
  | false =>
    have e : gP xs x = 130 := by unfold gP; rw [if_neg (by rw [h1]; decide)]
    have e2 : fX xs x = [] := by unfold fX; rw [e, if_neg (by decide)]
    rw [e, e2]
    repeat' (first | ((apply aL 59; refine JL_o (by exact aA en59 rfl (dC _ a n c xs (h.st hs))) rfl rfl ?_; rintro _ _ ⟨rfl, hE⟩; rw [h1]; have hs := hs.ext hE; (try simp only [zcc] at hs))) | (apply aH) | ((apply aC); exact zop; first | (exact rfl; exact rfl) | exact rfl) | (apply aQ) | (apply aB) | (apply aN) | (apply aG; refine bB rfl gb ?_))
    have hs := hs.nilRow 29 1
    refine aM Tryz.func45 rfl (.tmp rfl (.tmp rfl .nil)) ⟨none, rfl, hs.out (List.Sublist.refl _)⟩
  | true =>
    obtain ⟨i1, i2, i3⟩ := typeB_iff.1 h1
    cases h2 : mayM x with
    | false =>
      have e : gP xs x = 2 := by unfold gP; rw [if_pos h1, if_neg (by rw [h2]; decide)]
      have e2 : fX xs x = [] := by unfold fX; rw [e, if_neg (by decide)]
      rw [e, e2]
      repeat' (first | ((apply aL 59; refine JL_o (by exact aA en59 rfl (dC _ a n c xs (h.st hs))) rfl rfl ?_; rintro _ _ ⟨rfl, hE⟩; rw [h1]; have hs := hs.ext hE; (try simp only [zcc] at hs))) | ((apply aL 115; refine JL_o (by exact aA vT rfl (vJ _ x hx)) rfl rfl ?_; rintro _ _ ⟨rfl, hE⟩; rw [h2]; have hs := hs.ext hE; (try simp only [zcc] at hs))) | (apply aH) | ((apply aC); exact zop; first | (exact rfl; exact rfl) | exact rfl) | (apply aQ) | (apply aB) | (apply aN) | (apply aG; first | refine bB rfl gb ?_ | refine bD rfl gb ?_))
      have hs := hs.nilRow 29 1
      refine aM Tryz.func45 rfl (.tmp rfl (.tmp rfl .nil)) ⟨none, rfl, hs.out (List.Sublist.refl _)⟩
    | true =>
      have hil := insT_len xs x
      obtain ⟨Z, hZ⟩ : ∃ Z, Z = insT xs x := ⟨_, rfl⟩
      rw [← hZ] at hil
      by_cases h3 : 12 < Z.length
      · have e : gP xs x = 6 := by unfold gP; rw [if_pos h1, if_pos h2, ← hZ, if_pos h3]
        have e2 : fX xs x = [] := by unfold fX; rw [e, if_neg (by decide)]
        rw [e, e2]
        repeat' (first | ((apply aL 59; refine JL_o (by exact aA en59 rfl (dC _ a n c xs (h.st hs))) rfl rfl ?_; rintro _ _ ⟨rfl, hE⟩; rw [h1]; have hs := hs.ext hE; (try simp only [zcc] at hs))) | ((apply aL 115; refine JL_o (by exact aA vT rfl (vJ _ x hx)) rfl rfl ?_; rintro _ _ ⟨rfl, hE⟩; rw [h2]; have hs := hs.ext hE; (try simp only [zcc] at hs))) | ((apply aL 117; refine JL_o (by exact aA en117 rfl (zO _ a n c xs x (h.st hs) i2 hx (by omega))) rfl rfl ?_; rintro _ _ ⟨a7, c7, rfl, hsl, hE⟩; rw [← hZ] at hsl ⊢; have hs := hs.ext hE; (try simp only [zcc] at hs))) | ((apply aL 116; refine JL_o (by exact aA en116 rfl (zV _ a7 Z.length c7 Z hsl (by omega))) rfl rfl ?_; rintro _ _ ⟨a8, rfl, hf⟩; have hs := hs.fresh hf; (try simp only [zcc] at hs))) | (apply aH) | ((apply aC); exact zop; first | (exact rfl; exact rfl) | exact rfl) | (apply aQ) | (apply aB) | (apply aN) | (apply aW) | (apply aV) | (apply aG; first | refine aS rfl ob ?_ | refine bD rfl gb ?_))
        have hs := hs.nilRow 29 1
        refine aM Tryz.func45 rfl (.tmp rfl (.tmp rfl .nil)) ⟨none, rfl, hs.out (.cons_cons _ (List.nil_sublist _))⟩
      · have e : gP xs x = 0 := by unfold gP; rw [if_pos h1, if_pos h2, ← hZ, if_neg h3]
        have e2 : fX xs x = Z := by unfold fX; rw [e, if_pos rfl, hZ]
        rw [e, e2]
        repeat' (first | ((apply aL 59; refine JL_o (by exact aA en59 rfl (dC _ a n c xs (h.st hs))) rfl rfl ?_; rintro _ _ ⟨rfl, hE⟩; rw [h1]; have hs := hs.ext hE; (try simp only [zcc] at hs))) | ((apply aL 115; refine JL_o (by exact aA vT rfl (vJ _ x hx)) rfl rfl ?_; rintro _ _ ⟨rfl, hE⟩; rw [h2]; have hs := hs.ext hE; (try simp only [zcc] at hs))) | ((apply aL 117; refine JL_o (by exact aA en117 rfl (zO _ a n c xs x (h.st hs) i2 hx (by omega))) rfl rfl ?_; rintro _ _ ⟨a7, c7, rfl, hsl, hE⟩; rw [← hZ] at hsl ⊢; have hs := hs.ext hE; (try simp only [zcc] at hs))) | ((apply aL 116; refine JL_o (by exact aA en116 rfl (zV _ a7 Z.length c7 Z hsl (by omega))) rfl rfl ?_; rintro _ _ ⟨a8, rfl, hf⟩; have hs := hs.fresh hf; (try simp only [zcc] at hs))) | (apply aH) | ((apply aC); exact zop; first | (exact rfl; exact rfl) | exact rfl) | (apply aQ) | (apply aB) | (apply aN) | (apply aW) | (apply aV) | (apply aG; first | refine aZ rfl ob ?_ | refine bD rfl gb ?_))
        refine aM Tryz.func45 rfl (.tmp rfl (.tmp rfl .nil)) ⟨a8, rfl, hs.out (List.Sublist.refl _)⟩
theorem gW (w : World) (a : Option Addr) (n c : Nat) (xs : List Int) (x : Int) (h : Sl dId All w a n c xs) :
    Ret Tryz.prog 101 #[.slice a n c, .int .u64 x] w fun v w' => ∃ a' c', v = .tuple #[.slice a' (outL xs x).length c', .int .i64 (outC xs x)] ∧ Fresh w w' [RowU a' (outL xs x).length c' (outL xs x)] := by
  refine bI (l := [_, _]) Tryz.func101 rfl Tryz.ntmps101 (by simp) ?_
  have hs := St.init w
  have hl := h.len
  have hok := jW h
  cases h1 : dF xs with
  | false =>
    have e : outC xs x = 130 := by unfold outC; rw [if_neg (by rw [h1]; decide)]
    have e2 : outL xs x = [] := by unfold outL; rw [e, if_neg (by decide)]
    rw [e, e2]
    repeat' (first | ((apply aL 59; refine JL_o (by exact aA en59 rfl (dC _ a n c xs (h.st hs))) rfl rfl ?_; rintro _ _ ⟨rfl, hE⟩; rw [h1]; have hs := hs.ext hE; (try simp only [zcc] at hs))) | (apply aH) | ((apply aC); exact zop; first | (exact rfl; exact rfl) | exact rfl) | (apply aQ) | (apply aB) | (apply aG; refine bB rfl gb ?_))
    have hs := hs.nilRow 29 1
    refine aM Tryz.func101 rfl (.tmp rfl (.tmp rfl .nil)) ⟨none, 0, rfl, hs.out (List.Sublist.refl _)⟩
  | true =>
    obtain ⟨i1, i2, i3⟩ := typeB_iff.1 h1
    by_cases hm : x ∈ xs
    · have hmd : decide (x ∈ xs) = true := decide_eq_true hm
      have e : outC xs x = 0 := by unfold outC; rw [if_pos h1, if_pos hm]
      have e2 : outL xs x = outT xs x := by unfold outL; rw [e, if_pos rfl]
      rw [e, e2]
      repeat' (first | ((apply aL 59; refine JL_o (by exact aA en59 rfl (dC _ a n c xs (h.st hs))) rfl rfl ?_; rintro _ _ ⟨rfl, hE⟩; rw [h1]; have hs := hs.ext hE; (try simp only [zcc] at hs))) | ((apply aL 174; refine JL_o (by exact aA en174 rfl (xD _ a n c xs x (h.st hs) i2 (by omega))) rfl rfl ?_; rintro _ _ ⟨i, hcut, rfl, hE⟩; rw [hmd]; have hs := hs.ext hE; have hil := (List.getElem?_eq_some_iff.1 ((hcut.there i2).1 hm)).1; (try simp only [zcc] at hs))) | ((apply aL 116; refine JL_o (by exact aA en116 rfl (zV _ a n c xs (h.st hs) (by omega))) rfl rfl ?_; rintro _ _ ⟨a8, rfl, hf⟩; have hs := hs.fresh hf; (try simp only [zcc] at hs))) | ((apply aF (t := 27); refine JL_o (aA en175 rfl (yV _ a8 n n i (encL cId xs) (St.held (A := [_]) hs) (by omega) (by omega) (encI_one xs))) rfl rfl ?_; rintro _ _ ⟨rfl, ht⟩; have hs := St.take (A := [_]) (A' := [_]) hs ht; simp only [zcc] at hs)) | (apply aH) | ((apply aC); exact zop; first | (exact rfl; exact rfl) | exact rfl) | (apply aQ) | (apply aB) | (apply aV) | (apply aG; refine bD rfl gb ?_))
      have hce : (encL cId xs).take (i * 1) ++ (encL cId xs).drop ((i + 1) * 1) = encL cId (outT xs x) := by rw [Nat.mul_one, Nat.mul_one, uC, uD, ← fL, aBp hcut i2 hm]
      have hlo : n - 1 = (outT xs x).length := by rw [← aBp hcut i2 hm, List.length_append, List.length_take, List.length_drop]; omega
      rw [hce, hlo] at hs
      rw [hlo]
      refine aM Tryz.func101 rfl (.tmp rfl (.tmp rfl .nil)) ⟨a8, n, rfl, hs.out (List.Sublist.refl _)⟩
    · have hmd : decide (x ∈ xs) = false := decide_eq_false hm
      have e : outC xs x = 4 := by unfold outC; rw [if_pos h1, if_neg hm]
      have e2 : outL xs x = [] := by unfold outL; rw [e, if_neg (by decide)]
      rw [e, e2]
      repeat' (first | ((apply aL 59; refine JL_o (by exact aA en59 rfl (dC _ a n c xs (h.st hs))) rfl rfl ?_; rintro _ _ ⟨rfl, hE⟩; rw [h1]; have hs := hs.ext hE; (try simp only [zcc] at hs))) | ((apply aL 174; refine JL_o (by exact aA en174 rfl (xD _ a n c xs x (h.st hs) i2 (by omega))) rfl rfl ?_; rintro _ _ ⟨i, hcut, rfl, hE⟩; rw [hmd]; have hs := hs.ext hE; (try simp only [zcc] at hs))) | (apply aH) | ((apply aC); exact zop; first | (exact rfl; exact rfl) | exact rfl) | (apply aQ) | (apply aB) | (apply aV) | (apply aG; first | refine bB rfl gb ?_ | refine bD rfl gb ?_))
      have hs := hs.nilRow 29 1
      refine aM Tryz.func101 rfl (.tmp rfl (.tmp rfl .nil)) ⟨none, 0, rfl, hs.out (List.Sublist.refl _)⟩
theorem has1_r (w : World) (y x : Int) (b3 : Nat) (hb3 : w.heap[b3]? = some (.cells #[.int .u64 x] 29 (0, 0))) : Ret Tryz.prog 123 #[.int .u64 y, ptr b3] w fun v w' => v = .bool (decide (y = x)) ∧ Ext w w' := by
  refine bI (l := [_, _]) Tryz.func123 rfl Tryz.ntmps123 (by simp) ?_
  have hs := St.init w
  repeat' (first | (apply aH) | ((apply aC); (first | (apply aT; exact bL (hs.old_cell (cA (off := 0) hb3 rfl)) rfl aI) | exact zop); first | (exact rfl; exact rfl) | exact rfl) | (apply aQ) | (apply aB))
  refine aM Tryz.func123 rfl (.tmp rfl .nil) ⟨rfl, hs.frm.ext⟩
theorem some_r (w : World) (a : Option Addr) (n c q3 : Nat) :
    Ret Tryz.prog 122 #[.slice a n c, .func (.func 123) #[] #[ptr q3]] w fun v w' => ∃ b1 b2, v = .func (.func 185) #[] #[ptr b1, ptr b2] ∧ Fresh w w' [Blk b2 (.cells #[.func (.func 123) #[] #[ptr q3]] 130 (0, 0)), Blk b1 (.cells #[.slice a n c] 43 (0, 0))] := by
  refine bI (l := [_, _]) Tryz.func122 rfl Tryz.ntmps122 (by simp) ?_
  have hs := St.init w
  repeat' (first | (apply aH) | ((apply aC); exact zop; first | (exact rfl; exact rfl) | exact rfl) | (apply aQ) | (apply aB) | (apply aF (t := 2); refine JL_o (by apply bN; exact bC hs rfl) rfl rfl ?_; rintro _ _ ⟨b2, rfl, hb2, hs, hE⟩) | (apply aF (t := 3); refine JL_o (by apply bN; exact bC hs rfl) rfl rfl ?_; rintro _ _ ⟨b3, rfl, hb3, hs, hE⟩))
  refine aM Tryz.func122 rfl (.tmp rfl .nil) ⟨b2, b3, rfl, hs.out (List.Sublist.refl _)⟩
abbrev hasF (xs : List Int) (x : Int) : List Int := if dF xs then xs.filter (fun y => decide (y = x)) else []
theorem zY (R : Nat → Prop) (wr : World) (b1 b2 b3 : Nat) (a : Option Addr) (n c : Nat) (xs : List Int) (x : Int) (h : Sl dId R wr a n c xs) (hb1 : wr.heap[b1]? = some (.cells #[.slice a n c] 43 (0, 0))) (hb2 : wr.heap[b2]? = some (.cells #[.func (.func 123) #[] #[ptr b3]] 130 (0, 0))) (hb3 : wr.heap[b3]? = some (.cells #[.int .u64 x] 29 (0, 0))) :
    aCl Tryz.prog (.func (.func 185) #[] #[ptr b1, ptr b2]) (hasF xs x).length (idX (hasF xs x)) wr (fun k => (R k ∧ k < wr.heap.size) ∨ k = b1 ∨ k = b2 ∨ k = b3) := by
  intro y C Cs w c0 hy hK h0 hheld
  refine RetV.closure (avs := [_]) (cap := [_, _]) en185 ?_
  refine bI (l := [_, _, _]) Tryz.func185 rfl Tryz.ntmps185 (by simp) ?_
  have hs := hheld.st
  have hl := h.len
  have hmx : n ≤ 9223372036854775807 := by have h1 := h.le; have h2 := h.cap; unfold maxLen at h2; omega
  have hb1w := (hK b1 (.inr (.inl rfl))).1.trans hb1
  have hb1F := (hK b1 (.inr (.inl rfl))).2
  have hb2w := (hK b2 (.inr (.inr (.inl rfl)))).1.trans hb2
  have hb2F := (hK b2 (.inr (.inr (.inl rfl)))).2
  have hb3w := (hK b3 (.inr (.inr (.inr rfl)))).1.trans hb3
  have hb3F := (hK b3 (.inr (.inr (.inr rfl)))).2
  have hb3l := (Array.getElem?_eq_some_iff.1 hb3w).1
  have hsl : ∀ {W : World} {L : List HP}, St w (Star c0).foot W L → Sl dId All W a n c xs := fun {W L} hs => (h.loc (fun k hk hlt => hs.keepK (hK k (.inl ⟨hk, hlt⟩)).1 (hK k (.inl ⟨hk, hlt⟩)).2 hlt)).weak (fun _ _ => trivial)
  obtain ⟨U, hU⟩ : ∃ U, U = hasF xs x := ⟨_, rfl⟩
  rw [← hU] at hy ⊢
  cases ht : dF xs with
  | false =>
    have hU0 : U = [] := by rw [hU]; unfold hasF; rw [if_neg (by rw [ht]; decide)]
    subst hU0
    repeat' (first | ((apply aL 59; refine JL_o (by exact aA en59 rfl (dC _ a n c xs (hsl hs))) rfl rfl ?_; rintro _ _ ⟨rfl, hE⟩; rw [ht]; have hs := hs.ext hE; (try simp only [zcc] at hs))) | (apply aH) | ((apply aC); (first | (apply aT; first | exact bL (hs.keep_cell (cA (off := 0) hb1w rfl) hb1F) rfl aI | exact bL (hs.keep_cell (cA (off := 0) hb2w rfl) hb2F) rfl aI) | exact zop); first | (exact rfl; exact rfl) | exact rfl) | (apply aQ) | (apply aB) | (apply aG; refine bB rfl gb ?_))
    refine aM Tryz.func185 rfl .nil ⟨c0, .inl h0, St.turned (M := []) (by simpa using hs)⟩
  | true =>
    have hUf : U = xs.filter (fun y => decide (y = x)) := by rw [hU]; unfold hasF; rw [if_pos ht]
    repeat' (first | ((apply aL 59; refine JL_o (by exact aA en59 rfl (dC _ a n c xs (hsl hs))) rfl rfl ?_; rintro _ _ ⟨rfl, hE⟩; rw [ht]; have hs := hs.ext hE; (try simp only [zcc] at hs))) | (apply aH) | ((apply aC); (first | (apply aT; first | exact bL (hs.keep_cell (cA (off := 0) hb1w rfl) hb1F) rfl aI | exact bL (hs.keep_cell (cA (off := 0) hb2w rfl) hb2F) rfl aI) | exact zop); first | (exact rfl; exact rfl) | exact rfl) | (apply aQ) | (apply aB) | (apply aN) | (apply aV) | (apply aG; refine bD rfl gb ?_))
    refine bT (α := Nat × List HP) [(0, _), (2, _), (9, _), (10, _)] (fun g => [(11, .int .i64 g.1)]) (fun g w' => St w (Star c0).foot w' g.2 ∧ C ((xs.take g.1).filter (fun y => decide (y = x))).length g.2 ∧ g.1 ≤ n) (fun g => n - g.1) (0, c0) ⟨hs, h0, Nat.zero_le _⟩ zss ?_
    rintro ⟨k, ck⟩ w' ⟨hs, hC, hk⟩ ih
    dsimp only at hs hC hk ih ⊢
    by_cases hlt : k < n
    · have hu : xs[k]? = some (xs[k]'(by omega)) := List.getElem?_eq_getElem (by omega)
      obtain ⟨u, hud⟩ : ∃ u, u = xs[k]'(by omega) := ⟨_, rfl⟩
      rw [← hud] at hu
      have hfs := congrArg List.length (dU (fun y => decide (y = x)) hu)
      rw [List.length_append] at hfs
      obtain ⟨p2, o2, rfl⟩ := (hsl hs).sl.addr (by omega)
      by_cases hux : u = x
      · have hud2 : decide (u = x) = true := decide_eq_true hux
        rw [if_pos hud2] at hfs
        have hge : U[((xs.take k).filter (fun y => decide (y = x))).length]? = some u := by
          have hxs : xs.filter (fun y => decide (y = x)) = (xs.take k).filter (fun y => decide (y = x)) ++ ([u] ++ (xs.drop (k + 1)).filter (fun y => decide (y = x))) := by
            conv => lhs; rw [← List.take_append_drop (k + 1) xs]
            rw [List.filter_append, dU _ hu, if_pos hud2, List.append_assoc]
          rw [hUf, hxs, List.getElem?_append_right (Nat.le_refl _), Nat.sub_self]; rfl
        have hlt2 := (List.getElem?_eq_some_iff.1 hge).1
        repeat' (first | ((apply aF (t := 17); refine JL_o (bX rfl rfl (Ret.value (cap := #[ptr b3]) en123 (has1_r _ u x b3 ((hs.frm.old b3 hb3l hb3F).trans hb3w)))) rfl rfl ?_; rintro _ _ ⟨rfl, hE⟩; rw [hud2]; have hs := hs.ext hE; (try simp only [zcc] at hs))) | ((apply bK; have hs2 : St w (Star c0).foot _ ((ck ++ []) ++ []) := (by simpa using hs); refine bM (t := 21) rfl gb (bX rfl rfl (hy _ _ [_] _ ck hlt2 hC ⟨_, hge, rfl, rfl⟩ hs2.held hs2.frm)) rfl rfl ?_; rintro _ _ ⟨c', ⟨rfl, hC'⟩ | ⟨rfl, hC'⟩, ht⟩ <;> have hs : St w (Star c0).foot _ c' := (hs2.take ht).sub (List.sublist_append_left _ _))) | (apply aH) | ((first | (apply aC) | (apply bA; exact rfl; exact gb)); (first | (apply aT; first | exact bL (hs.keep_cell (cA (off := 0) hb2w rfl) hb2F) rfl aI | exact aX (i := k) (j := 0) (hsl hs) hu rfl rfl rfl aI) | exact zop); first | (exact rfl; exact rfl) | exact rfl) | (apply aQ) | (apply aB) | (apply aN) | (apply aW) | (apply aV) | (apply aG; first | refine aS rfl ob ?_ | refine bB rfl gb ?_ | refine bD rfl gb ?_))
        · refine ih (k + 1, c') _ _ ⟨hs, by dsimp only; rw [hfs]; exact hC', hlt⟩ (by dsimp only; omega) zss
        · refine aM Tryz.func185 rfl .nil ⟨c', .inr hC', St.turned (M := []) (by simpa using hs)⟩
      · have hud2 : decide (u = x) = false := decide_eq_false hux
        rw [if_neg (by rw [hud2]; decide)] at hfs
        repeat' (first | ((apply aF (t := 17); refine JL_o (bX rfl rfl (Ret.value (cap := #[ptr b3]) en123 (has1_r _ u x b3 ((hs.frm.old b3 hb3l hb3F).trans hb3w)))) rfl rfl ?_; rintro _ _ ⟨rfl, hE⟩; rw [hud2]; have hs := hs.ext hE; (try simp only [zcc] at hs))) | (apply aH) | ((apply aC); (first | (apply aT; first | exact bL (hs.keep_cell (cA (off := 0) hb2w rfl) hb2F) rfl aI | exact aX (i := k) (j := 0) (hsl hs) hu rfl rfl rfl aI) | exact zop); first | (exact rfl; exact rfl) | exact rfl) | (apply aQ) | (apply aB) | (apply aN) | (apply aW) | (apply aV) | (apply bK; (refine cY rfl gb rfl ?_)) | (apply aG; first | refine aS rfl ob ?_ | refine bD rfl gb ?_))
        refine ih (k + 1, ck) _ _ ⟨hs, by dsimp only; rw [hfs]; exact hC, hlt⟩ (by dsimp only; omega) zss
    · rw [List.take_of_length_le (by omega), ← hUf] at hC
      repeat' (first | (apply aH) | ((apply aC); exact zop; first | (exact rfl; exact rfl) | exact rfl) | (apply aQ) | (apply aB) | (apply bG; refine bP rfl ?_) | (apply aG; refine aZ rfl ob ?_))
      refine eI Tryz.func185 rfl .nil ⟨ck, .inl hC, St.turned (M := []) (by simpa using hs)⟩
theorem qF (w : World) (a : Option Addr) (n c : Nat) (xs : List Int) (x : Int) (h : Sl dId All w a n c xs) :
    Ret Tryz.prog 47 #[.slice a n c, .int .u64 x] w fun v w' => v = .bool (hasT xs x) ∧ Ext w w' := by
  refine bI (l := [_, _]) Tryz.func47 rfl Tryz.ntmps47 (by simp) ?_
  have hs := St.init w
  repeat' (first | ((apply aL 122; refine JL_o (by exact aA en122 rfl (some_r _ a n c b3)) rfl rfl ?_; rintro _ _ ⟨b1, b2, rfl, hf⟩; have hs := hs.fresh hf; (try simp only [zcc] at hs))) | (apply aH) | ((apply aC); exact zop; first | (exact rfl; exact rfl) | exact rfl) | (apply aQ) | (apply aB) | (apply aN) | (apply aF (t := 3); refine JL_o (by apply bN; exact bC hs rfl) rfl rfl ?_; rintro _ _ ⟨b3, rfl, hb3, hs, hE⟩) | (apply aF (t := 4); refine JL_o (by apply aR; exact aJ hs) rfl rfl ?_; rintro _ _ ⟨b4, rfl, hb4, hs, hE⟩))
  have hbt := hs.blk (b := b1)
  have hbl := hs.blk (b := b2)
  have hb3 := hs.blk (b := b3)
  have hlt1 := hs.lt (b := b1)
  have hlt2 := hs.lt (b := b2)
  have hlt3 := hs.lt (b := b3)
  have hs0 : St w NoF _ ([Blk b4 (.cells #[.bool false] 4 (0, 0))] ++ [Blk b3 _, Blk b2 _, Blk b1 _]) := hs.sel [2, 3, 0, 1] (by decide)
  have hit := zY (fun k => k < w.heap.size) _ b1 b2 b3 a n c xs x ((slOldI h).loc (fun k hk _ => hs0.frm.old k hk id)) hbt hbl hb3
  refine tE (ps := [8]) hs0 rfl ⟨185, #[ptr b1, ptr b2], rfl, en185⟩ hit
    (fun k A => A = [Blk b4 (.cells #[.bool false] 4 (0, 0))] ∧ k = 0)
    (fun j A => (j = .ret ∧ hasT xs x = true) ∧ A = [Blk b4 (.cells #[.bool true] 4 (0, 0))]) ⟨rfl, rfl⟩ ?_ (by decide) ?_ ?_ ?_ ?_
  · rintro k (⟨hk, hk2⟩ | rfl | rfl | rfl)
    · exact ⟨rfl, fun hf => by have := hs0.foot0 k hf; omega, hk2⟩
    · exact ⟨rfl, fun hf => hs0.sepA (.tail _ (.tail _ (.head _))) hf (fM _ _), hlt1⟩
    · exact ⟨rfl, fun hf => hs0.sepA (.tail _ (.head _)) hf (fM _ _), hlt2⟩
    · exact ⟨rfl, fun hf => hs0.sepA (.head _) hf (fM _ _), hlt3⟩
  · rintro i vals cx ⟨_, _, rfl, _⟩; rfl
  · rintro l2 D tm k w1 A1 cx vals hD hDl hk ⟨rfl, hG⟩ ⟨y, hy, rfl, rfl⟩ hh hold
    have hs : St _ _ _ [_, _] := hh.st
    have hyes : hasT xs x = true := by
      have hym := List.mem_of_getElem? hy
      unfold hasF at hym
      by_cases ht : dF xs = true
      · rw [if_pos ht] at hym
        obtain ⟨h1, h2⟩ := List.mem_filter.1 hym
        have h2 := of_decide_eq_true h2
        unfold hasT
        rw [ht, decide_eq_true (h2 ▸ h1)]; rfl
      · rw [if_neg ht] at hym; cases hym
    repeat' (first | ((refine eG hs (fun w2 hs => ?_))) | (apply aH) | (apply aQ) | (apply aB) | (apply aN) | (apply aV) | (apply aU; refine JL_u (by apply aP; exact aK hs rfl rfl rfl) rfl ?_; rintro _ _ ⟨hs, hF⟩))
    have hs : St _ _ _ [_, _] := hs.sel [0, 1] (by decide)
    refine rE hs (fun w3 hs => .inr ⟨rfl, .ret, [Blk b4 (.cells #[.bool true] 4 (0, 0))], ⟨⟨rfl, hyes⟩, rfl⟩, St.turned (M := []) hs⟩)
  · rintro w2 D A2 ⟨rfl, hG⟩ hs
    have hs : St w NoF _ [_, _, _, _, _] := hs
    have hno : hasT xs x = false := by
      unfold hasT
      by_cases ht : dF xs = true
      · rw [ht, decide_eq_false]; rfl
        intro hm
        unfold hasF at hG
        rw [if_pos ht] at hG
        have := List.eq_nil_of_length_eq_zero hG
        have h2 : x ∈ xs.filter (fun y => decide (y = x)) := List.mem_filter.2 ⟨hm, by simp⟩
        rw [this] at h2; cases h2
      · have : dF xs = false := by simpa using ht
        rw [this]; rfl
    rw [hno]
    repeat' (first | ((refine pZ (lS hs (fun w3 hs => pX Tryz.func47 rfl (.scal' hs rfl rfl .nil) ⟨rfl, hs.frm.ext⟩)))) | (apply aH) | (apply aQ) | (apply aB) | (apply aW) | (apply aU; refine JL_u (by apply aP; exact aK hs rfl rfl rfl) rfl ?_; rintro _ _ ⟨hs, hF⟩))
  · rintro w2 D A2 j ⟨⟨rfl, hm⟩, rfl⟩ hs
    have hs : St w NoF _ [_, _, _, _, _] := hs
    rw [hm]
    repeat' (first | ((refine pZ (lS hs (fun w3 hs => pX Tryz.func47 rfl (.scal' hs rfl rfl .nil) ⟨rfl, hs.frm.ext⟩)))))
end Go.Eng
end
section
namespace Go.Eng
open Go.Proofs
set_option linter.unusedSimpArgs false
set_option linter.unusedVariables false
abbrev ST := Int × Int
abbrev dStp : Ty ST := tPair (tInt .u64) (tInt .i64)
abbrev okT (h : ST) : Prop := inK .u64 h.1 ∧ inK .i64 h.2
abbrev cT (h : ST) : List Value := [.int .u64 h.1, .int .i64 h.2]
theorem flatStp : FlatTy dStp cT okT :=
  (inferInstance : FlatTy (tPair (tInt .u64) (tInt .i64)) (fun h => [.int .u64 h.1] ++ [.int .i64 h.2]) (fun h => inK .u64 h.1 ∧ inK .i64 h.2))
instance (priority := high) : FlatTy dStp cT okT := flatStp
theorem eqStp (a b c d : Int) : EqlT Tryz.prog 93 (.agg #[.int .u64 a, .int .i64 b]) (.agg #[.int .u64 c, .int .i64 d]) (a = c ∧ b = d) instDecidableAnd := by
  refine ⟨fun w => ?_, ⟨_, _, rfl, rfl⟩, by kernel_rfl⟩
  have u3 := Tryz.underlying3
  have a3 := Tryz.isAgg3
  have z3 := Tryz.sizeOf3
  have u4 := Tryz.underlying29
  have a4 := Tryz.isAgg29
  have z4 := Tryz.sizeOf29
  have hS : Tryz.prog.underlying 93 = some (.struct (Tryz.prog.fieldsOf 93)) := by kernel_rfl
  have hp : Tryz.prog.stoodInHeld 93 = false := by kernel_rfl
  rw [show (10000 : Nat) = 9999 + 1 from rfl, run_equalIn_agg w 9999 93 _ _ hS hp]
  simp only [Program.fieldsOf, Tryz.underlying93]
  go_simp
  by_cases h1 : a = c <;> by_cases h2 : b = d <;> simp [h1, h2]
instance (a b c d : Int) : EqlT Tryz.prog 93 (.agg #[.int .u64 a, .int .i64 b]) (.agg #[.int .u64 c, .int .i64 d]) (a = c ∧ b = d) instDecidableAnd := eqStp a b c d
theorem st_eq {x y : ST} : (x.1 = y.1 ∧ x.2 = y.2) ↔ x = y := ⟨fun h => Prod.ext h.1 h.2, fun h => by subst h; exact ⟨rfl, rfl⟩⟩
abbrev RowT (a : Option Addr) (n c : Nat) (xs : List ST) : HP := Row a n c 93 2 (encL cT xs)
theorem mM (xs : List ST) (x : ST) : encL cT xs ++ cT x = encL cT (xs ++ [x]) := by rw [fL]; simp [encL]
theorem oB {w : World} {b e : Nat} {r : ST} {fz : Nat × Nat} (h : w.heap[b]? = some (.cells #[.int .u64 r.1, .int .i64 r.2] e fz)) : Src w (some ⟨b, 0, none⟩) 1 2 (cT r) := by
  refine ⟨rfl, fun h => (nomatch h), fun u hu => ?_, fun b' o hb j u hj => ?_⟩
  · simp only [List.mem_cons, List.not_mem_nil, or_false] at hu
    rcases hu with rfl | rfl <;> rfl
  · cases hb
    exact cA h (by rw [Nat.zero_add]; exact hj)
theorem slT {w0 w : World} {F : Nat → Prop} {L : List HP} {a : Option Addr} {n c : Nat} {xs : List ST} (hs : St w0 F w L) (h : RowT a n c xs ∈ L) (hok : ∀ x ∈ xs, okT x) : Sl dStp All w a n c xs := (RowV.slF (d := dStp) (hs.all _ h) (by decide) hok).weak (fun _ _ => trivial)
theorem mB {w : World} {a : Option Addr} {n c : Nat} {xs : List ST} {R : Nat → Prop} (h : Sl dStp R w a n c xs) : ∀ x ∈ xs, okT x := (h.srcF).2.2
theorem rU {w : World} {b e : Nat} {u0 u1 : Value} {fz : Nat × Nat} (hu : ∀ u ∈ [u0, u1], u.oneCell' = true) (h : w.heap[b]? = some (.cells #[u0, u1] e fz)) : Src w (some ⟨b, 0, none⟩) 1 2 [u0, u1] := by
  refine ⟨rfl, fun h => (nomatch h), hu, fun b' o hb j u hj => ?_⟩
  cases hb
  exact cA h (by rw [Nat.zero_add]; exact hj)
theorem xX {w0 w : World} {F : Nat → Prop} {L : List HP} {b o n c e sz bv : Nat} {X : List Value} {ob : Obj} (hs : St w0 F w (Row (some ⟨b, o, none⟩) n c e sz X :: Blk bv ob :: L)) : bv ≠ b := fun h => by
  subst h
  exact (List.pairwise_cons.1 hs.sep).1 _ List.mem_cons_self bv rfl rfl
theorem overH_r (w : World) (bv b q lb cb tv e : Nat) (cv cur : Array Value) (hbv : w.heap[bv]? = some (.cells cv tv (0, 0))) (hb : w.heap[b]? = some (.cells cur e (0, 0))) (hne : bv ≠ b) (hc : cur.size ≠ 0) :
    RetV Tryz.prog (.func (.func 222) #[] #[]) #[.slice (some ⟨bv, 0, none⟩) 1 1, .slice (some ⟨b, q, none⟩) lb cb] w (fun v w' => v = .bool false ∧ Ext w w') := by
  refine RetV.ext (v := .bool false) ?_ ⟨rfl, Ext.refl _⟩
  rw [run_callFunc_extern Tryz.func222 (by kernel_rfl) (by kernel_rfl) (by kernel_rfl) (e := Extern.SlicesOverlaps.overlaps #[77, 77] #[4]) (by kernel_rfl),
    Lib.run_overlaps_apart w 77 4 93 Tryz.underlying77 2 Tryz.sizeOf93 ⟨bv, 0, none⟩ ⟨b, q, none⟩ 1 1 lb cb hne tv e cv.size cur.size (by simp [World.shape?, hbv]) (by simp [World.shape?, hb]) hc (by simp [World.frozen?, hbv]) (by simp [World.frozen?, hbv])]
  rfl
theorem iL {a : Option Addr} {n c e sz k : Nat} {xs : List Value} (h : (Star [Row a n c e sz xs]).foot k) : dH a k := by
  obtain ⟨d, hd, hk⟩ := h
  rw [List.mem_singleton.1 hd] at hk
  exact hk
theorem pH {α : Type} {l : List α} {k : Nat} {x : α} (p : α → Bool) (hx : l[k]? = some x) : (l.take (k + 1)).filter (fun x => !p x) = (l.take k).filter (fun x => !p x) ++ if p x then [] else [x] := by
  rw [List.take_add_one, hx, List.filter_append]
  congr 1
  by_cases h : p x = true
  · simp [h]
  · simp [h]
theorem one_encT (xs : List ST) : ∀ u ∈ encL cT xs, u.oneCell' = true := fun u hu => by
  obtain ⟨x, _, hx⟩ := List.mem_flatMap.1 hu
  simp only [List.mem_cons, List.not_mem_nil, or_false] at hx
  rcases hx with rfl | rfl <;> rfl
attribute [local irreducible] Hold J JL JD JX JXat OpR OpG Ret RetV Is Blk Row
set_option maxRecDepth 100000
set_option maxHeartbeats 1000000
theorem indexT_r (w : World) (a : Option Addr) (n c : Nat) (xs : List ST) (x : ST) (h : Sl dStp All w a n c xs) :
    Ret Tryz.prog 227 #[.slice a n c, .agg (cT x).toArray] w fun v w' => ∃ i : Int, (0 ≤ i ↔ x ∈ xs) ∧ v = .int .i64 i ∧ Ext w w' := by
  refine bI (l := [_, _]) Tryz.func227 rfl Tryz.ntmps227 (by simp) ?_
  have hs := St.init w
  have hl := h.len
  have hmx : n ≤ 9223372036854775807 := by have h3 := h.le; have h4 := h.cap; unfold maxLen at h4; omega
  repeat' (first | (apply aH) | ((apply aC); exact zop; first | (exact rfl; exact rfl) | exact rfl) | (apply aQ) | (apply aB) | (apply aN) | (apply aF (t := 3); refine JL_o (by apply bN; exact bC hs rfl) rfl rfl ?_; rintro _ _ ⟨b3, rfl, hb3, hs, hE⟩))
  refine bT (α := Nat) [(0, _), (3, _), (7, _)] (fun k => [(8, .int .i64 k)]) (fun k w' => St w NoF w' [Blk b3 (.cells #[.int .u64 x.1, .int .i64 x.2] 93 (0, 0))] ∧ k ≤ n ∧ x ∉ xs.take k) (fun k => n - k) 0 ⟨hs, Nat.zero_le _, (by simp)⟩ zss ?_
  rintro k w2 ⟨hs1, hk, hno⟩ ih
  have hs : St w NoF w2 [_] := hs1
  by_cases hlt : k < n
  · obtain ⟨p, o, rfl⟩ := h.sl.addr (by omega)
    have hs : St w NoF w2 [_] := hs1
    have hx : xs[k]? = some (xs[k]'(by omega)) := List.getElem?_eq_getElem (by omega)
    obtain ⟨y, hyd⟩ : ∃ y, y = xs[k]'(by omega) := ⟨_, rfl⟩
    rw [← hyd] at hx
    by_cases hc : x = y
    · have hc2 : decide (x.1 = y.1 ∧ x.2 = y.2) = true := decide_eq_true (st_eq.2 hc)
      repeat' (first | (apply aH) | ((first | (apply aC) | (apply JX_f; exact rfl; intro W X hs)); (first | (apply aT; exact aO (h.st hs) hx rfl rfl aI) | (apply cI; exact sY rfl rfl aI) | exact zop); first | (exact rfl; exact rfl) | exact rfl) | (apply aQ) | (apply aB) | (apply aN) | (apply aV) | (apply aG; first | refine aS rfl ob ?_ | refine bB rfl gb ?_) | (apply bV; (refine bQ (id := 4) [0, 0, 0, 6, 14, 31] [(0, 0), (1, 0), (2, 0), (3, 0), (4, 0), (5, 0)] [] hs cQ (by kernel_rfl) (by kernel_rfl) (by kernel_rfl) (by kernel_rfl) (by kernel_rfl) ?_)) | (refine bU (fun W hs => ?_)) | (apply cB))
      refine aM Tryz.func227 rfl (.tmp rfl .nil) ⟨k, ⟨fun _ => hc ▸ List.mem_of_getElem? hx, fun _ => by omega⟩, rfl, hs.frm.ext⟩
    · have hc2 : decide (x.1 = y.1 ∧ x.2 = y.2) = false := decide_eq_false (fun e => hc (st_eq.1 e))
      repeat' (first | (apply aH) | ((first | (apply aC) | (apply JX_f; exact rfl; intro W X hs)); (first | (apply aT; exact aO (h.st hs) hx rfl rfl aI) | (apply cI; exact sY rfl rfl aI) | exact zop); first | (exact rfl; exact rfl) | exact rfl) | (apply aQ) | (apply aB) | (apply aN) | (apply aW) | (apply aV) | (apply aG; first | refine aS rfl ob ?_ | refine bD rfl gb ?_) | (apply bV; (refine bQ (id := 4) [0, 0, 0, 6, 14, 31] [(0, 0), (1, 0), (2, 0), (3, 0), (4, 0), (5, 0)] [] hs cQ (by kernel_rfl) (by kernel_rfl) (by kernel_rfl) (by kernel_rfl) (by kernel_rfl) ?_)) | (refine bU (fun W hs => ?_)) | (apply cB))
      refine ih (k + 1) _ _ ⟨hs, hlt, fun hm => ?_⟩ (by omega) zss
      rw [List.take_add_one, hx] at hm
      rcases List.mem_append.1 hm with e | e
      · exact hno e
      · exact hc (by simpa using e)
  · rw [List.take_of_length_le (by omega)] at hno
    repeat' (first | (apply aH) | ((apply aC); exact zop; first | (exact rfl; exact rfl) | exact rfl) | (apply aQ) | (apply aB) | (apply bG; refine bP rfl ?_) | (apply aG; refine aZ rfl ob ?_))
    refine aM Tryz.func227 rfl (.tmp rfl .nil) ⟨-1, ⟨fun e => absurd e (by decide), fun e => absurd e hno⟩, rfl, hs.frm.ext⟩
theorem sO (w : World) (a : Option Addr) (n c : Nat) (xs : List ST) (x : ST) (h : Sl dStp All w a n c xs) :
    Ret Tryz.prog 184 #[.slice a n c, .agg (cT x).toArray] w fun v w' => v = .bool (decide (x ∈ xs)) ∧ Ext w w' := by
  refine bI (l := [_, _]) Tryz.func184 rfl Tryz.ntmps184 (by simp) ?_
  have hs := St.init w
  repeat' (first | ((apply aL 227; refine JL_o (by exact aA en227 rfl (indexT_r _ a n c xs x (h.st hs))) rfl rfl ?_; rintro _ _ ⟨i, hi, rfl, hE⟩; have hs := hs.ext hE; (try simp only [zcc] at hs))) | (apply aH) | ((apply aC); exact zop; first | (exact rfl; exact rfl) | exact rfl) | (apply aQ) | (apply aB) | (apply aF (t := 3); refine JL_o (by apply bN; exact bC hs rfl) rfl rfl ?_; rintro _ _ ⟨b3, rfl, hb3, hs, hE⟩))
  refine aM Tryz.func184 rfl (.tmp rfl .nil) ⟨congrArg Value.bool (by rw [decide_eq_decide]; exact hi), hs.frm.ext⟩
theorem xC (w : World) (a : Option Addr) (n c : Nat) (xs : List ST) (h : Sl dStp All w a n c xs) (hn : n ≤ 4000000) :
    Ret Tryz.prog 93 #[.slice a n c] w fun v w' => ∃ a' c', v = .slice a' n c' ∧ Fresh w w' [RowT a' n c' xs] := by
  refine bI (l := [_]) Tryz.func93 rfl Tryz.ntmps93 (by simp) ?_
  have hs := St.init w
  obtain ⟨hsrc, hpl, _⟩ := h.srcF
  have hl := h.len
  cases a with
  | none =>
    have hn0 := hsrc.2.1 rfl
    subst hn0
    have : xs = [] := List.eq_nil_of_length_eq_zero (by omega)
    subst this
    repeat' (first | (apply aH) | ((apply aC); exact zop; first | (exact rfl; exact rfl) | exact rfl) | (apply aQ) | (apply aB) | (apply aG; refine bB rfl gb ?_))
    have hs := hs.nilRow 93 2
    refine aM Tryz.func93 rfl (.tmp rfl .nil) ⟨_, _, rfl, hs.out (List.Sublist.refl _)⟩
  | some ad =>
    repeat' (first | ((apply aF; refine JL_o (by apply bJ; exact bF hs rfl (by omega) rfl) rfl rfl ?_; rintro _ _ ⟨b, rfl, hb, hs, hE⟩; have hs := hs.toRow 0 0 0 2 (xs := []) (Nat.le_refl _) (by unfold maxLen; omega) (by simp) rfl)) | ((apply aF; refine JL_o (by apply bW; exact cF hs rfl rfl (Src.st hsrc hs) hpl rfl (by omega) (by unfold maxLen; omega)) rfl rfl ?_; rintro _ _ ⟨a2, c2, rfl, hs, hF, hnil⟩; rw [Nat.zero_add] at hs ⊢; rw [List.nil_append] at hs)) | (apply aH) | ((apply aC); exact zop; first | (exact rfl; exact rfl) | exact rfl) | (apply aQ) | (apply aB) | (apply aV) | (apply aG; refine bD rfl gb ?_))
    refine aM Tryz.func93 rfl (.tmp rfl .nil) ⟨_, _, rfl, hs.out (.cons_cons _ (List.nil_sublist _))⟩
theorem insT_r (w : World) (a : Option Addr) (n c i : Nat) (cells : List Value) (u0 u1 : Value) (bv : Nat) (hh : Held w [Row a n c 93 2 cells, Blk bv (.cells #[u0, u1] 93 (0, 0))]) (hi : i ≤ n) (hn : n ≤ 1000000) (h1 : ∀ u ∈ cells, u.oneCell' = true) (hu : ∀ u ∈ [u0, u1], u.oneCell' = true) :
    Ret Tryz.prog 173 #[.slice a n c, .int .i64 i, .slice (some ⟨bv, 0, none⟩) 1 1] w fun v w' => ∃ a' c', v = .slice a' (n + 1) c' ∧ Turn w [Row a n c 93 2 cells, Blk bv (.cells #[u0, u1] 93 (0, 0))] w' [Row a' (n + 1) c' 93 2 (cells.take (i * 2) ++ [u0, u1] ++ cells.drop (i * 2))] := by
  refine bI (l := [_, _, _]) Tryz.func173 rfl Tryz.ntmps173 (by simp) ?_
  have hs := hh.st
  have hrow := hs.row a n c
  have hl := hrow.len
  have hcap := hrow.2.1
  have hcm := hrow.2.2.1
  unfold maxLen at hcm
  by_cases hin : i = n
  · subst hin
    rw [List.take_of_length_le (by omega), List.drop_of_length_le (by omega), List.append_nil]
    repeat' (first | ((apply aF (t := 25); refine JL_o (by apply bW; exact cF (xs := cells) (news := [u0, u1]) hs rfl rfl (rU hu (hs.blk (b := bv))) cJ rfl (by omega) (by unfold maxLen; omega)) rfl rfl ?_; rintro _ _ ⟨a4, c4, rfl, hs, hF, hnil⟩)) | (apply aH) | ((apply aC); (first | (apply dA; exact dO (kl := .i64) (kh := .i64) (km := .i64) (l := (i : Nat)) (m := c) (h := (i : Nat)) rfl (.inr ⟨_, rfl, rfl⟩) (.inl ⟨rfl, rfl, rfl⟩) (.inl ⟨rfl, rfl⟩) (by omega) (by omega) (by omega) (by omega) rfl aI) | exact zop); first | (exact rfl; exact rfl) | exact rfl) | (apply aQ) | (apply aB) | (apply aV) | (apply aG; first | refine aS rfl ob ?_ | refine aZ rfl ob ?_))
    refine aM Tryz.func173 rfl (.tmp rfl .nil) ⟨a4, c4, rfl, St.turned (M := [_]) hs⟩
  · obtain ⟨b, o, rfl⟩ := hrow.some (by omega)
    obtain ⟨g, o', cur, hgo, hg, hgs, hgt⟩ := hrow.2.2.2.resolve_left (fun h => by cases h.1)
    cases hgo
    by_cases hroom : n + 1 ≤ c
    · have hov : (n + 1 - (i + 1)) = n - i := by omega
      repeat' (first | ((apply aF (t := 60); obtain ⟨ys, hyl, hs⟩ := hs.growRow (n + 1) (by omega) (by omega); refine aC (v := .slice (some ⟨b, o, none⟩) (n + 1) c) (by apply dA; exact dL (q := n + 1) rfl rfl (by omega) (by omega) aI) rfl rfl ?_)) | ((apply aF (t := 67); obtain ⟨g2, o2, cur2, hgo2, hg2, hgs2, hgt2⟩ := (hs.row (some ⟨b, o, none⟩) (n + 1) c).2.2.2.resolve_left (fun h => by cases h.1); cases hgo2; refine JL_o (sZ rfl rfl (overH_r _ bv b _ _ _ 93 93 _ cur2 (hs.blk (b := bv)) hg2 (xX hs) (by omega))) rfl rfl ?_; rintro _ _ ⟨rfl, hE⟩; have hs := hs.ext hE)) | ((apply aF (t := 77); refine JL_o (by apply fH; exact fJ (sz := 2) (off := i + 1) (vs := cells.drop (i * 2)) (a := some ⟨b, o, none⟩) (n := n + 1) (c := c) (by omega) hs rfl rfl (fun _ => by simp [dV]) (by omega) (by rw [show min (n + 1 - i) (n + 1 - (i + 1)) = n - i by omega]; have := (hs.row (some ⟨b, o, none⟩) (n + 1) c).srcDrop i (n - i) (zs := cells.drop (i * 2)) (by rw [List.drop_append_of_le_length (by omega), List.take_append_of_le_length (by rw [List.length_drop]; omega), List.take_of_length_le (by rw [List.length_drop]; omega)]) (fun u hu => h1 u (List.mem_of_mem_drop hu)) (by omega) (by omega); simpa [dV] using this) cJ) rfl rfl ?_; rintro _ _ ⟨rfl, hs, hF⟩)) | ((apply aF (t := 82); refine JL_o (by apply fH; exact fJ (sz := 2) (off := i) (vs := [u0, u1]) (a := some ⟨b, o, none⟩) (n := n + 1) (c := c) (by omega) hs rfl rfl (fun _ => by simp [dV]) (by omega) (by rw [show min 1 (n + 1 - i) = 1 by omega]; exact rU hu (hs.blk (b := bv))) cJ) rfl rfl ?_; rintro _ _ ⟨rfl, hs, hF⟩)) | (apply aH) | ((first | (apply aC) | (apply JX_f; exact rfl; intro W X hs)); (first | (apply xG; exact aB9 rfl aI) | (apply dA; first | exact fP (q := i) rfl rfl (by omega) (by omega) (by omega) (by omega) aI | exact fP (q := i + 1) rfl rfl (by omega) (by omega) (by omega) (by omega) aI | exact dL (q := i) rfl rfl (by omega) (by omega) aI) | exact zop); first | (exact rfl; exact rfl) | exact rfl) | (apply aQ) | (apply aB) | (apply aV) | (apply aG; first | refine aZ rfl ob ?_ | refine bB rfl gb ?_) | (apply bV; (refine bQ (id := 15) [0, 0, 0, 6, 15, 0, 0, 96, 255] [(0, 0), (1, 0), (2, 0), (3, 0), (4, 0), (5, 0), (6, 0), (7, 0)] [8] hs cQ (by kernel_rfl) (by kernel_rfl) (by kernel_rfl) (by kernel_rfl) (by kernel_rfl) ?_)) | (refine bU (fun W hs => ?_)) | (apply eS; case' hos => (simp only [List.map_cons, List.map_nil, List.getElem?_toArray, List.getElem?_cons_succ, List.getElem?_cons_zero]; repeat' (first | exact fS | apply eR))))
      rw [tK (by omega) rfl (by omega) (by rw [hyl]; omega)] at hs
      refine aM Tryz.func173 rfl (.tmp rfl .nil) ⟨_, c, rfl, St.turned (M := [_]) hs⟩
    · have hcn : c = n := by omega
      subst hcn
      repeat' (first | ((apply aF (t := 40); refine JL_o (by apply bW; exact wD (sz := 2) (kn := .i64) (kq := .i64) (a := some ⟨b, o, none⟩) (n := c) (c := c) (i := i) (k := c + 1 - i) hs rfl (by rw [show ((c + 1 - i : Nat) : Int) = (c : Int) + 1 - (i : Int) by omega]; rfl) (by omega) (by omega) (by omega) (by omega) rfl (by omega) (by unfold maxLen; omega)) rfl rfl ?_; rintro _ _ ⟨b4, c4, zs, rfl, hzl, hs, hE⟩; have hc4 := (hs.row (some ⟨b4, 0, none⟩) (i + (c + 1 - i)) c4).2.1)) | ((apply aF (t := 45); refine JL_o (by apply fH; exact fJ (sz := 2) (off := i) (vs := [u0, u1]) (a := some ⟨b4, 0, none⟩) (n := i + (c + 1 - i)) (c := c4) (by omega) hs rfl rfl (fun _ => by simp [dV]) (by omega) (by rw [show min 1 (i + (c + 1 - i) - i) = 1 by omega]; exact rU hu (hs.blk (b := bv))) cJ) rfl rfl ?_; rintro _ _ ⟨rfl, hs, hF⟩)) | ((apply aF (t := 54); refine JL_o (by apply fH; exact fJ (sz := 2) (off := i + 1) (vs := cells.drop (i * 2)) (a := some ⟨b4, 0, none⟩) (n := i + (c + 1 - i)) (c := c4) (by omega) hs rfl rfl (fun _ => by simp [dV]) (by omega) (by rw [show min (c - i) (i + (c + 1 - i) - (i + 1)) = c - i by omega]; have := (hs.row (some ⟨b, o, none⟩) c c).srcDrop i (c - i) (zs := cells.drop (i * 2)) (by rw [List.take_of_length_le (by rw [List.length_drop]; omega)]) (fun u hu => h1 u (List.mem_of_mem_drop hu)) (by omega) (by omega); simpa [dV] using this) cJ) rfl rfl ?_; rintro _ _ ⟨rfl, hs, hF⟩)) | (apply aH) | ((first | (apply aC) | (apply JX_f; exact rfl; intro W X hs)); (first | (apply xG; exact aB9 rfl aI) | (apply dA; first | exact fP (q := i) rfl rfl (by omega) (by omega) (by omega) (by omega) aI | exact fP (q := i + 1) rfl rfl (by omega) (by omega) (by omega) (by omega) aI | exact dL (q := i) rfl rfl (by omega) (by omega) aI) | exact zop); first | (exact rfl; exact rfl) | exact rfl) | (apply aQ) | (apply aB) | (apply aV) | (apply aG; first | refine aS rfl ob ?_ | refine aZ rfl ob ?_) | (apply bV; (refine bQ (id := 11) [0, 0, 0, 6, 15, 0, 0, 96, 255] [(0, 0), (1, 0), (2, 0), (3, 0), (4, 0), (5, 0), (6, 0), (7, 0)] [8] hs cQ (by kernel_rfl) (by kernel_rfl) (by kernel_rfl) (by kernel_rfl) (by kernel_rfl) ?_)) | (refine bU (fun W hs => ?_)) | (apply eS; case' hos => (simp only [List.map_cons, List.map_nil, List.getElem?_toArray, List.getElem?_cons_succ, List.getElem?_cons_zero]; repeat' (first | exact fS | apply eR))))
      rw [xR (by rw [List.length_take]; omega) rfl (by omega) (by rw [List.length_drop, hzl]; omega), show i + (c + 1 - i) = c + 1 by omega] at hs
      refine aM Tryz.func173 rfl (.tmp rfl .nil) ⟨_, c4, by rw [show i + (c + 1 - i) = c + 1 by omega]; rfl, St.turned (M := [_, _]) hs⟩
theorem idxFT_r (w : World) (a : Option Addr) (n c : Nat) (xs : List ST) (h : Sl dStp All w a n c xs) (hn : n ≤ 4000000) (g : FuncId) (cap : Array Value) (eg : bH Tryz.prog g) (pr : ST → Bool) (hcall : ∀ W, (∀ k, k < w.heap.size → W.heap[k]? = w.heap[k]?) → ∀ x ∈ xs, Ret Tryz.prog g (#[.agg (cT x).toArray] ++ cap) W (fun v w' => v = .bool (pr x) ∧ Ext W w')) :
    Ret Tryz.prog 181 #[.slice a n c, .func (.func g) #[] cap] w fun v w' => ((v = .int .i64 (-1) ∧ xs.filter (fun x => !pr x) = xs) ∨ ∃ (k : Nat) (x : ST), v = .int .i64 (k : Nat) ∧ xs[k]? = some x ∧ pr x = true ∧ (xs.take k).filter (fun x => !pr x) = xs.take k) ∧ Ext w w' := by
  refine bI (l := [_, _]) Tryz.func181 rfl Tryz.ntmps181 (by simp) ?_
  have hs := St.init w
  have hl := h.len
  repeat' (first | (apply aH) | ((apply aC); exact zop; first | (exact rfl; exact rfl) | exact rfl) | (apply aQ) | (apply aB) | (apply aN))
  refine bT (α := Nat) [(0, _), (1, _), (7, _)] (fun k => [(8, .int .i64 k)]) (fun k w' => St w NoF w' [] ∧ k ≤ n ∧ (xs.take k).filter (fun x => !pr x) = xs.take k) (fun k => n - k) 0 ⟨hs, by omega, rfl⟩ zss ?_
  rintro k w' ⟨hs1, hk, hf⟩ ih
  have hs : St w NoF w' [] := hs1
  by_cases hlt : k < n
  · obtain ⟨p1, o1, rfl⟩ := h.sl.addr (by omega)
    have hx : xs[k]? = some (xs[k]'(by omega)) := List.getElem?_eq_getElem (by omega)
    obtain ⟨x, hxd⟩ : ∃ x, x = xs[k]'(by omega) := ⟨_, rfl⟩
    rw [← hxd] at hx
    have hks := pH pr hx
    obtain ⟨pb, hpb⟩ : ∃ pb, pb = pr x := ⟨_, rfl⟩
    cases pb with
    | false =>
      rw [← hpb, if_neg (by decide), hf] at hks
      repeat' (first | ((apply aF (t := 16); refine JL_o (bX rfl rfl (Ret.value (cap := cap) eg (hcall _ (fun k hk => hs.frm.old k hk id) x (List.mem_of_getElem? hx)))) rfl rfl ?_; rintro _ _ ⟨rfl, hE⟩; have hs := hs.ext hE; rw [← hpb])) | (apply aH) | ((apply aC); (first | (apply aT; exact aO (h.st hs) hx rfl rfl aI) | exact zop); first | (exact rfl; exact rfl) | exact rfl) | (apply aQ) | (apply aB) | (apply aN) | (apply aW) | (apply aV) | (apply aG; first | refine aS rfl ob ?_ | refine bD rfl gb ?_))
      refine ih (k + 1) _ _ ⟨hs, by omega, by rw [hks, List.take_add_one, hx]; rfl⟩ (by omega) zss
    | true =>
      repeat' (first | ((apply aF (t := 16); refine JL_o (bX rfl rfl (Ret.value (cap := cap) eg (hcall _ (fun k hk => hs.frm.old k hk id) x (List.mem_of_getElem? hx)))) rfl rfl ?_; rintro _ _ ⟨rfl, hE⟩; have hs := hs.ext hE; rw [← hpb])) | (apply aH) | ((apply aC); (first | (apply aT; exact aO (h.st hs) hx rfl rfl aI) | exact zop); first | (exact rfl; exact rfl) | exact rfl) | (apply aQ) | (apply aB) | (apply aN) | (apply aV) | (apply aG; first | refine aS rfl ob ?_ | refine bB rfl gb ?_))
      refine aM Tryz.func181 rfl (.tmp rfl .nil) ⟨.inr ⟨k, x, rfl, hx, hpb.symm, hf⟩, hs.frm.ext⟩
  · have e : xs.take k = xs := List.take_of_length_le (by omega)
    rw [e] at hf
    repeat' (first | (apply aH) | ((apply aC); exact zop; first | (exact rfl; exact rfl) | exact rfl) | (apply aQ) | (apply aB) | (apply bG; refine bP rfl ?_) | (apply aG; refine aZ rfl ob ?_))
    refine aM Tryz.func181 rfl (.tmp rfl .nil) ⟨.inl ⟨rfl, hf⟩, hs.frm.ext⟩
theorem nI (w : World) (a : Option Addr) (n c : Nat) (xs : List ST) (hh : Held w [Row a n c 93 2 (encL cT xs)]) (hok : ∀ x ∈ xs, okT x) (hn : n ≤ 4000000) (g : FuncId) (cap : Array Value) (eg : bH Tryz.prog g) (pr : ST → Bool) (hcall : ∀ W, (∀ k, k < w.heap.size → ¬ dH a k → W.heap[k]? = w.heap[k]?) → ∀ x ∈ xs, Ret Tryz.prog g (#[.agg (cT x).toArray] ++ cap) W (fun v w' => v = .bool (pr x) ∧ Ext W w')) :
    Ret Tryz.prog 109 #[.slice a n c, .func (.func g) #[] cap] w fun v w' => v = .slice a (xs.filter (fun x => !pr x)).length c ∧ Turn w [Row a n c 93 2 (encL cT xs)] w' [Row a (xs.filter (fun x => !pr x)).length c 93 2 (encL cT (xs.filter (fun x => !pr x)))] := by
  refine bI (l := [_, _]) Tryz.func109 rfl Tryz.ntmps109 (by simp) ?_
  have hs := hh.st
  have hrow := hs.row a n c
  have hlE := hrow.len
  have hlen : xs.length = n := by
    have := eK (d := dStp) xs
    rw [hlE] at this
    exact (Nat.eq_of_mul_eq_mul_right (by decide) this).symm
  have hsl : Sl dStp All w a n c xs := (RowV.slF (d := dStp) hrow (by decide) hok).weak (fun _ _ => trivial)
  have hcap := hrow.2.1
  repeat' (first | ((apply aF (t := 10); refine JL_o (aA en181 rfl (idxFT_r _ a n c xs hsl hn g cap eg pr (fun W hW x hx => hcall W (fun k hk _ => hW k hk) x hx))) rfl rfl ?_; rintro _ _ ⟨⟨rfl, hf⟩ | ⟨k, r, rfl, hx, hr, hf⟩, hE⟩ <;> have hs := hs.ext hE <;> (try (have hkn : k < n := by rw [← hlen]; exact (List.getElem?_eq_some_iff.1 hx).1)))) | (apply aH) | ((apply aC); exact zop; first | (exact rfl; exact rfl) | exact rfl) | (apply aQ) | (apply aB) | (apply aN) | (apply aV) | (apply aG; first | refine aS rfl ob ?_ | refine aZ rfl ob ?_))
  · rw [hf, hlen]
    refine aM Tryz.func109 rfl (.tmp rfl .nil) ⟨rfl, St.turned (M := []) hs⟩
  have hf1 : (xs.take (k + 1)).filter (fun x => !pr x) = xs.take k := by rw [pH pr hx, hr, if_pos rfl, hf, List.append_nil]
  have hs0 : St w (Star [Row a n c 93 2 (encL cT xs)]).foot _ [Row a n c 93 2 (encL cT xs)] := hs
  refine bT (α := Nat × Nat × List ST) [(0, _), (1, _)] (fun g => [(5, .int .i64 g.1), (6, .int .i64 g.2.1)]) (fun g w' => St w (Star [Row a n c 93 2 (encL cT xs)]).foot w' [Row a n c 93 2 (encL cT g.2.2)] ∧ (g.1 < g.2.1 ∧ g.2.1 ≤ n) ∧ g.2.2.length = n ∧ g.2.2.take g.1 = (xs.take g.2.1).filter (fun x => !pr x) ∧ g.2.2.drop g.2.1 = xs.drop g.2.1) (fun g => n - g.2.1) (k, k + 1, xs) ⟨hs0, ⟨by dsimp only; omega, by dsimp only; omega⟩, hlen, hf1.symm, rfl⟩ zss ?_
  rintro ⟨i, j, cur⟩ w2 ⟨hs1, ⟨hij, hj⟩, hcl, ht, hd⟩ ih
  dsimp only at hs1 hij hj hcl ht hd ih ⊢
  obtain ⟨b, o, rfl⟩ := (hs1.row a n c).some (by omega)
  have hs : St w (Star [Row (some ⟨b, o, none⟩) n c 93 2 (encL cT xs)]).foot w2 [Row (some ⟨b, o, none⟩) n c 93 2 (encL cT cur)] := hs1
  by_cases hlt : j < n
  · have hx2 : xs[j]? = some (xs[j]'(by omega)) := List.getElem?_eq_getElem (by omega)
    obtain ⟨r2, hrd⟩ : ∃ r, r = xs[j]'(by omega) := ⟨_, rfl⟩
    rw [← hrd] at hx2
    have hc2 : cur[j]? = some r2 := by
      have : (cur.drop j)[0]? = (xs.drop j)[0]? := by rw [hd]
      rw [List.getElem?_drop, List.getElem?_drop, Nat.add_zero] at this
      rw [this]; exact hx2
    have hld : ∀ (q : Nat) (u : Value), (cT r2)[q]? = some u → (encL cT cur)[j * 2 + q]? = some u := fun q u hq => by
      have hq3 : q < 2 := (List.getElem?_eq_some_iff.1 hq).1
      rw [show (encL cT cur)[j * 2 + q]? = (cT r2)[q]? from dK (d := dStp) cur j q r2 hc2 hq3]; exact hq
    have hdj : cur.drop (j + 1) = xs.drop (j + 1) := by
      have : (cur.drop j).drop 1 = (xs.drop j).drop 1 := by rw [hd]
      rwa [List.drop_drop, List.drop_drop] at this
    have hft := pH pr hx2
    obtain ⟨pb, hpb⟩ : ∃ pb, pb = pr r2 := ⟨_, rfl⟩
    cases pb with
    | false =>
      rw [← hpb, if_neg (by decide), ← ht] at hft
      have hset : encL cT (cur.set i r2) = bR (encL cT cur) (i * 2) (cT r2) := iS (d := dStp) cur i r2 (by omega)
      repeat' (first | ((apply aF (t := 28); refine JL_o (bX rfl rfl (Ret.value (cap := cap) eg (hcall _ (fun k hk hf => hs.frm.old k hk (fun h => hf (iL h))) r2 (List.mem_of_getElem? hx2)))) rfl rfl ?_; rintro _ _ ⟨rfl, hE⟩; have hs := hs.ext hE; rw [← hpb])) | ((apply aU; refine JL_u (by apply aP; exact cD (b := b) (o := o) (off := i * 2) (n := n) (c := c) (vs := cT r2) hs rfl rfl rfl rfl (fun u hu => by simp only [List.mem_cons, List.not_mem_nil, or_false] at hu; rcases hu with rfl | rfl <;> rfl) (by show i * 2 + 2 ≤ n * 2; omega)) rfl ?_; rintro _ _ ⟨hs, hF⟩; rw [← hset] at hs)) | (apply aH) | ((apply aC); (first | (apply aT; exact iH (off := j * 2) (n := n) (c := c) hs rfl rfl hld aI) | exact zop); first | (exact rfl; exact rfl) | exact rfl) | (apply aQ) | (apply aB) | (apply aN) | (apply aW) | (apply aV) | (apply aF (t := 7); refine JL_o (by apply aR; exact aJ hs) rfl rfl ?_; rintro _ _ ⟨b7, rfl, hb7, hs, hE⟩) | (apply aU; refine JL_u (by apply aP; exact aK hs rfl rfl rfl) rfl ?_; rintro _ _ ⟨hs, hF⟩) | (apply aG; first | refine aS rfl ob ?_ | refine bB rfl gb ?_))
      refine ih (i + 1, j + 1, cur.set i r2) _ _ ⟨hs.sel [1] (by decide), ⟨by dsimp only; omega, by dsimp only; omega⟩, by dsimp only; rw [List.length_set]; exact hcl, ?_, ?_⟩ (by dsimp only; omega) zss
      · dsimp only
        rw [hft, List.take_add_one, List.getElem?_set_self (by omega), List.take_set_of_le (Nat.le_refl _)]; rfl
      · dsimp only
        rw [List.drop_set_of_lt (by omega)]; exact hdj
    | true =>
      rw [← hpb, if_pos rfl, ← ht, List.append_nil] at hft
      repeat' (first | ((apply aF (t := 28); refine JL_o (bX rfl rfl (Ret.value (cap := cap) eg (hcall _ (fun k hk hf => hs.frm.old k hk (fun h => hf (iL h))) r2 (List.mem_of_getElem? hx2)))) rfl rfl ?_; rintro _ _ ⟨rfl, hE⟩; have hs := hs.ext hE; rw [← hpb])) | (apply aH) | ((apply aC); (first | (apply aT; exact iH (off := j * 2) (n := n) (c := c) hs rfl rfl hld aI) | exact zop); first | (exact rfl; exact rfl) | exact rfl) | (apply aQ) | (apply aB) | (apply aN) | (apply aW) | (apply aV) | (apply aF (t := 7); refine JL_o (by apply aR; exact aJ hs) rfl rfl ?_; rintro _ _ ⟨b7, rfl, hb7, hs, hE⟩) | (apply aU; refine JL_u (by apply aP; exact aK hs rfl rfl rfl) rfl ?_; rintro _ _ ⟨hs, hF⟩) | (apply aG; first | refine aS rfl ob ?_ | refine bD rfl gb ?_))
      refine ih (i, j + 1, cur) _ _ ⟨hs.sel [1] (by decide), ⟨by dsimp only; omega, by dsimp only; omega⟩, hcl, hft.symm, hdj⟩ (by dsimp only; omega) zss
  · have hjn : j = n := by omega
    subst hjn
    have htk : xs.take j = xs := List.take_of_length_le (by omega)
    rw [htk] at ht
    have hfl : (xs.filter (fun x => !pr x)).length = i := by rw [← ht, List.length_take]; omega
    have hcell : ∀ zs, (bR (encL cT cur) (i * 2) zs).take (i * 2) = encL cT (xs.filter (fun x => !pr x)) := fun zs => by
      have := eK (d := dStp) cur
      rw [gX _ _ _ (by rw [this]; show i * 2 ≤ cur.length * 2; omega), ← ht]; exact (iE (d := dStp) cur i).symm
    rw [hfl]
    repeat' (first | ((apply aF (t := 38); refine aC (v := .slice (some ⟨b, o + i * 2, none⟩) (j - i) (c - i)) (by apply dA; exact fP (q := i) rfl rfl rfl (by omega) (by omega) (by omega) aI) rfl rfl ?_)) | ((apply aU; refine JL_u (by apply jH; exact lA (a := some ⟨b, o, none⟩) (off := i) (n := j) (c := c) (sz := 2) hs rfl rfl (by decide) (fun _ => by simp [dV]) (by omega)) rfl ?_; rintro _ _ ⟨rfl, ⟨zs, hzl, hs⟩, hF⟩)) | (apply aH) | ((apply aC); (first | (apply dA; exact dL (q := i) rfl rfl rfl (by omega) aI) | exact zop); first | (exact rfl; exact rfl) | exact rfl) | (apply aQ) | (apply aB) | (apply bG; refine bP rfl ?_) | (apply aG; refine aZ rfl ob ?_))
    have hs := hs.cutRow i c (by omega) (by omega) (Nat.le_refl _)
    rw [hcell] at hs
    refine aM Tryz.func109 rfl (.tmp rfl .nil) ⟨rfl, St.turned (M := []) hs⟩
theorem uS (w : World) (a : Option Addr) (n c : Nat) (xs : List ST) (h : Sl dStp All w a n c xs) (hn : n ≤ 1000000) :
    Ret Tryz.prog 180 #[.slice a n c] w fun v w' => ∃ a', v = .slice a' n n ∧ Fresh w w' [RowT a' n n xs] := by
  refine bI (l := [_]) Tryz.func180 rfl Tryz.ntmps180 (by simp) ?_
  have hs := St.init w
  obtain ⟨hsrc, hpl, _⟩ := h.srcF
  have hl := h.len
  have hE0 : (encL cT xs).length = n * 2 := by have := eK (d := dStp) xs; rw [hl] at this; exact this
  repeat' (first | ((apply aF (t := 6); refine JL_o (by apply eP; exact iU hs rfl rfl (by omega) (by omega)) rfl rfl ?_; rintro _ _ ⟨b8, rfl, hb8, hs, hE⟩; have hs := hs.toRow 0 n n 2 (Nat.le_refl _) (by unfold maxLen; omega) (by simp [madeCells]) rfl)) | ((apply aF (t := 9); refine JL_o (by apply fH; exact fJ (sz := 2) (off := 0) (vs := encL cT xs) (a := some ⟨b8, 0, none⟩) (n := n) (c := n) (by omega) hs rfl rfl (fun _ => rfl) (by omega) (by rw [Nat.min_self]; exact Src.st hsrc hs) (by rw [Nat.min_self]; exact hpl)) rfl rfl ?_; rintro _ _ ⟨rfl, hs, hF⟩; rw [gY 2 (by rw [hE0]; simp [madeCells])] at hs)) | (apply aH) | ((apply aC); exact zop; first | (exact rfl; exact rfl) | exact rfl) | (apply aQ) | (apply aB))
  refine aM Tryz.func180 rfl (.tmp rfl .nil) ⟨_, rfl, hs.out (List.Sublist.refl _)⟩
end Go.Eng
end
section
namespace Go.Eng
open Go.Proofs
set_option linter.unusedSimpArgs false
set_option linter.unusedVariables false
abbrev NM := Bool × List Int × List ST × List ST
abbrev eD : Ty NM := tPair tBool (tPair (tSl dId) (tPair (tSl dStp) (tSl dStp)))
abbrev RNd := Bool × RS × RS × RS
abbrev dRNd : Ty RNd := tPair tBool (tPair tS (tPair tS tS))
abbrev mNode : Rel RNd NM := jP (tO Bool) (jP (xY dId) (jP (xY dStp) (xY dStp)))
abbrev cNd (p : RNd) : List Value := [.bool p.1, .slice p.2.1.1 p.2.1.2.1 p.2.1.2.2, .slice p.2.2.1.1 p.2.2.1.2.1 p.2.2.1.2.2, .slice p.2.2.2.1 p.2.2.2.2.1 p.2.2.2.2.2]
theorem flatNd : FlatTy dRNd cNd (fun _ => True ∧ True ∧ True ∧ True) :=
  (inferInstance : FlatTy (tPair tBool (tPair tS (tPair tS tS))) (fun p => [.bool p.1] ++ ([.slice p.2.1.1 p.2.1.2.1 p.2.1.2.2] ++ ([.slice p.2.2.1.1 p.2.2.1.2.1 p.2.2.1.2.2] ++ [.slice p.2.2.2.1 p.2.2.2.2.1 p.2.2.2.2.2]))) (fun _ => True ∧ True ∧ True ∧ True))
instance (priority := high) : FlatTy dRNd cNd (fun _ => True ∧ True ∧ True ∧ True) := flatNd
theorem gD : RawTy eD dRNd mNode := inferInstance
abbrev TabN (a : Option Addr) (n c : Nat) (rs : List RNd) : HP := Row a n c 79 4 (encL cNd rs)
abbrev n0 : NM := (false, [], [], [])
abbrev QN := Bool × (RS × List Int) × (RS × List ST) × (RS × List ST)
abbrev rawN (q : QN) : RNd := (q.1, q.2.1.1, q.2.2.1.1, q.2.2.2.1)
abbrev fO (q : QN) : NM := (q.1, q.2.1.2, q.2.2.1.2, q.2.2.2.2)
abbrev row1 (q : QN) : HP := RowU q.2.1.1.1 q.2.1.1.2.1 q.2.1.1.2.2 q.2.1.2
abbrev row2 (q : QN) : HP := RowT q.2.2.1.1.1 q.2.2.1.1.2.1 q.2.2.1.1.2.2 q.2.2.1.2
abbrev row3 (q : QN) : HP := RowT q.2.2.2.1.1 q.2.2.2.1.2.1 q.2.2.2.1.2.2 q.2.2.2.2
def rowN (q : QN) : HP := Star [row1 q, row2 q, row3 q]
def OwnN (qs : List QN) : HP := Star (qs.map rowN)
def okN (q : QN) : Prop := (q.2.1.1.2.1 = q.2.1.2.length ∧ ∀ x ∈ q.2.1.2, okId x) ∧ (q.2.2.1.1.2.1 = q.2.2.1.2.length ∧ ∀ x ∈ q.2.2.1.2, okT x) ∧ (q.2.2.2.1.2.1 = q.2.2.2.2.length ∧ ∀ x ∈ q.2.2.2.2, okT x)
abbrev okNM (x : NM) : Prop := (∀ i ∈ x.2.1, okId i) ∧ (∀ s ∈ x.2.2.1, okT s) ∧ ∀ s ∈ x.2.2.2, okT s
section
variable {w0 w : World} {F : Nat → Prop} {L : List HP}
theorem St.nilN (h : St w0 F w L) : St w0 F w (OwnN [] :: L) := St.star (A := []) h
theorem St.packN {q : QN} (h : St w0 F w (row1 q :: row2 q :: row3 q :: L)) : St w0 F w (rowN q :: L) := St.star (A := [row1 q, row2 q, row3 q]) h
theorem St.unpackN {q : QN} (h : St w0 F w (rowN q :: L)) : St w0 F w (row1 q :: row2 q :: row3 q :: L) := St.unstar (A := [row1 q, row2 q, row3 q]) h
theorem St.pushN {qs : List QN} {q : QN} (h : St w0 F w (rowN q :: OwnN qs :: L)) : St w0 F w (OwnN (qs ++ [q]) :: L) := by
  have h1 : St w0 F w (OwnN qs :: rowN q :: L) := h.perm (.swap _ _ _)
  have h2 : St w0 F w (qs.map rowN ++ (rowN q :: L)) := St.unstar h1
  have h3 : St w0 F w ((qs ++ [q]).map rowN ++ L) := by rw [List.map_append, List.append_assoc]; exact h2
  exact St.star h3
theorem St.outN {q1 q2 : List QN} {q : QN} (h : St w0 F w (OwnN (q1 ++ q :: q2) :: L)) : St w0 F w (rowN q :: OwnN (q1 ++ q2) :: L) := by
  have h2 : St w0 F w ((q1 ++ q :: q2).map rowN ++ L) := St.unstar h
  have h3 : ((q1 ++ q :: q2).map rowN ++ L).Perm ((q1 ++ q2).map rowN ++ (rowN q :: L)) := by
    rw [List.map_append, List.map_append, List.map_cons]
    refine (List.Perm.append_right L (List.perm_middle)).trans ?_
    rw [List.cons_append]
    exact List.perm_middle.symm
  have h4 : St w0 F w (OwnN (q1 ++ q2) :: rowN q :: L) := St.star (h2.perm h3)
  exact h4.perm (.swap _ _ _)
theorem St.inN {q1 q2 : List QN} {q : QN} (h : St w0 F w (rowN q :: OwnN (q1 ++ q2) :: L)) : St w0 F w (OwnN (q1 ++ q :: q2) :: L) := by
  have h1 : St w0 F w (OwnN (q1 ++ q2) :: rowN q :: L) := h.perm (.swap _ _ _)
  have h2 : St w0 F w ((q1 ++ q2).map rowN ++ (rowN q :: L)) := St.unstar h1
  refine St.star (A := (q1 ++ q :: q2).map rowN) (h2.perm ?_)
  rw [List.map_append, List.map_append, List.map_cons]
  refine (List.perm_middle (l₁ := q1.map rowN ++ q2.map rowN) (l₂ := L) (a := rowN q)).trans ?_
  rw [← List.cons_append]
  exact (List.Perm.append_right L (List.perm_middle)).symm
theorem oE {qs : List QN} (h : (OwnN qs).holds w) {q : QN} (hq : q ∈ qs) : (row1 q).holds w ∧ (row2 q).holds w ∧ (row3 q).holds w := by
  have h1 : (rowN q).holds w := h.1 _ (List.mem_map_of_mem hq)
  exact ⟨h1.1 _ (.head _), h1.1 _ (.tail _ (.head _)), h1.1 _ (.tail _ (.tail _ (.head _)))⟩
theorem meanN_of {qs : List QN} (h : (OwnN qs).holds w) (hok : ∀ q ∈ qs, okN q) : MeanV mNode All w (qs.map rawN) (qs.map fO) := by
  refine ⟨by simp, fun i r x hr hx => ?_⟩
  rw [List.getElem?_map] at hr hx
  cases hq : qs[i]? with
  | none => rw [hq] at hr; cases hr
  | some q =>
    rw [hq] at hr hx
    cases hr; cases hx
    have hm := List.mem_of_getElem? hq
    obtain ⟨⟨_, h1⟩, ⟨_, h2⟩, ⟨_, h3⟩⟩ := hok q hm
    obtain ⟨r1, r2, r3⟩ := oE h hm
    exact ⟨rfl, (RowV.slF (d := dId) r1 (by decide) h1).weak (fun _ _ => trivial), (RowV.slF (d := dStp) r2 (by decide) h2).weak (fun _ _ => trivial), (RowV.slF (d := dStp) r3 (by decide) h3).weak (fun _ _ => trivial)⟩
theorem slN {a : Option Addr} {n c : Nat} {qs : List QN} (hs : St w0 F w L) (h1 : TabN a n c (qs.map rawN) ∈ L) (h2 : OwnN qs ∈ L) (hok : ∀ q ∈ qs, okN q) : Sl eD All w a n c (qs.map fO) :=
  Sl.unraw (D := gD) ((RowV.slF (d := dRNd) (hs.all _ h1) (by decide) (fun _ _ => ⟨trivial, trivial, trivial, trivial⟩)).weak (fun _ _ => trivial)) (meanN_of (hs.all _ h2) hok)
end
theorem qL {w : World} {a : Option Addr} {n c : Nat} {N : List NM} (h : Sl eD All w a n c N) : ∀ x ∈ N, okNM x := fun x hx => by
  obtain ⟨rs, h1, hm⟩ := Sl.raw (D := gD) h
  obtain ⟨i, hi⟩ := List.mem_iff_getElem?.1 hx
  obtain ⟨q, hq, e1, e2, e3, e4⟩ := hm.get hi
  exact ⟨jW (show Sl dId All w q.2.1.1 q.2.1.2.1 q.2.1.2.2 x.2.1 from e2), mB (show Sl dStp All w q.2.2.1.1 q.2.2.1.2.1 q.2.2.1.2.2 x.2.2.1 from e3), mB (show Sl dStp All w q.2.2.2.1 q.2.2.2.2.1 q.2.2.2.2.2 x.2.2.2 from e4)⟩
theorem kS (xs : List RNd) (x : RNd) : encL cNd xs ++ cNd x = encL cNd (xs ++ [x]) := by rw [fL]; simp [encL]
theorem lZ {w : World} {b e : Nat} {r : RNd} {fz : Nat × Nat} (h : w.heap[b]? = some (.cells (cNd r).toArray e fz)) : Src w (some ⟨b, 0, none⟩) 1 4 (cNd r) := by
  refine ⟨rfl, fun h => (nomatch h), fun u hu => ?_, fun b' o hb j u hj => ?_⟩
  · simp only [List.mem_cons, List.not_mem_nil, or_false] at hu
    rcases hu with rfl | rfl | rfl | rfl <;> rfl
  · cases hb
    exact cA h (by rw [Nat.zero_add]; exact hj)
def isM (N : List NM) (x : Int) : Bool := decide (1 ≤ x ∧ x ≤ N.length) && (N.getD (x - 1).toNat n0).1
theorem cK {α : Type} {l : List α} {d x : α} {k : Nat} (h : l[k]? = some x) : l.getD k d = x := by rw [List.getD_eq_getElem?_getD, h]; rfl
theorem isM_true {N : List NM} {x : Int} : isM N x = true ↔ ∃ k y, x = (k : Nat) + 1 ∧ N[k]? = some y ∧ y.1 = true := by
  unfold isM
  rw [Bool.and_eq_true, decide_eq_true_eq]
  constructor
  · rintro ⟨⟨h1, h2⟩, h3⟩
    have hk : (x - 1).toNat < N.length := by omega
    rw [cK (List.getElem?_eq_getElem hk)] at h3
    exact ⟨(x - 1).toNat, N[(x - 1).toNat]'hk, by omega, List.getElem?_eq_getElem hk, h3⟩
  · rintro ⟨k, y, rfl, hy, h3⟩
    have := (List.getElem?_eq_some_iff.1 hy).1
    have e : ((k : Int) + 1 - 1).toNat = k := by omega
    rw [e, cK hy]
    exact ⟨⟨by omega, by omega⟩, h3⟩
attribute [local irreducible] Hold J JL JD JX JXat OpR OpG Ret RetV Is Blk Row
set_option maxRecDepth 100000
set_option maxHeartbeats 1000000
theorem is_r (w : World) (a a2 : Option Addr) (n c n2 c2 : Nat) (N : List NM) (x : Int) (h : Sl eD All w a n c N) (hx : inK .i64 x) :
    Ret Tryz.prog 105 #[.agg #[.slice a n c, .slice a2 n2 c2], .int .i64 x] w fun v w' => v = .bool (isM N x) ∧ Ext w w' := by
  refine bI (l := [_, _]) Tryz.func105 rfl Tryz.ntmps105 (by simp) ?_
  have hs := St.init w
  have hl := h.len
  obtain ⟨rs, hr, hm⟩ := Sl.raw (D := gD) h
  have hmx : n ≤ 9223372036854775807 := by have h3 := h.le; have h4 := h.cap; unfold maxLen at h4; omega
  unfold inK at hx
  simp only [IntKind.min, IntKind.max, IntKind.bits, IntKind.signed] at hx
  have hcase : x < 1 ∨ (1 ≤ x ∧ (n : Int) < x) ∨ (1 ≤ x ∧ x ≤ n) := by omega
  rcases hcase with h1 | ⟨h1, h2⟩ | ⟨h1, h2⟩
  · have e : isM N x = false := by unfold isM; rw [decide_eq_false (by omega)]; rfl
    rw [e]
    repeat' (first | (apply aH) | ((apply aC); exact zop; first | (exact rfl; exact rfl) | exact rfl) | (apply aQ) | (apply aB) | (apply aF (t := 2); refine JL_o (by apply bN; exact bC hs rfl) rfl rfl ?_; rintro _ _ ⟨b2, rfl, hb2, hs, hE⟩) | (apply bK; (refine cY rfl gb rfl ?_)))
    refine aM Tryz.func105 rfl (.tmp rfl .nil) ⟨rfl, hs.frm.ext⟩
  · have e : isM N x = false := by unfold isM; rw [decide_eq_false (by omega)]; rfl
    rw [e]
    repeat' (first | (apply aH) | ((first | (apply aC) | (apply bA; exact rfl; exact gb)); exact zop; first | (exact rfl; exact rfl) | exact rfl) | (apply aQ) | (apply aB) | (apply aF (t := 2); refine JL_o (by apply bN; exact bC hs rfl) rfl rfl ?_; rintro _ _ ⟨b2, rfl, hb2, hs, hE⟩) | (apply bK; (refine cY rfl gb rfl ?_)))
    refine aM Tryz.func105 rfl (.tmp rfl .nil) ⟨rfl, hs.frm.ext⟩
  · obtain ⟨k, rfl⟩ : ∃ k : Nat, x = (k : Int) + 1 := ⟨(x - 1).toNat, by omega⟩
    obtain ⟨p, o, rfl⟩ := hr.sl.addr (by omega)
    have hy : N[k]? = some (N[k]'(by omega)) := List.getElem?_eq_getElem (by omega)
    obtain ⟨y, hyd⟩ : ∃ y, y = N[k]'(by omega) := ⟨_, rfl⟩
    rw [← hyd] at hy
    obtain ⟨r, hrx, e1, _⟩ := hm.get hy
    have e1 : r.1 = y.1 := e1
    have e : isM N ((k : Int) + 1) = r.1 := by
      unfold isM
      have e2 : ((k : Int) + 1 - 1).toNat = k := by omega
      rw [decide_eq_true (by omega), e2, cK hy, e1]; rfl
    have hrx2 : rs[((k : Int) + 1 - 1).toNat]? = some r := by rw [show ((k : Int) + 1 - 1).toNat = k by omega]; exact hrx
    rw [e]
    repeat' (first | (apply aH) | ((first | (apply aC) | (apply bA; exact rfl; exact gb)); (first | (apply aT; exact aX (i := ((k : Int) + 1 - 1).toNat) (j := 0) (hr.st hs) hrx2 rfl rfl rfl aI) | exact zop); first | (exact rfl; exact rfl) | exact rfl) | (apply aQ) | (apply aB) | (apply aF (t := 2); refine JL_o (by apply bN; exact bC hs rfl) rfl rfl ?_; rintro _ _ ⟨b2, rfl, hb2, hs, hE⟩))
    refine aM Tryz.func105 rfl (.tmp rfl .nil) ⟨rfl, hs.frm.ext⟩
theorem dM (w : World) (a b : ST) (ha : okT a) (hb : okT b) : Ret Tryz.prog 172 #[.agg (cT a).toArray, .agg (cT b).toArray] w fun v w' => v = .int .i64 (cmpI a.1 b.1) ∧ Ext w w' := by
  refine bI (l := [_, _]) Tryz.func172 rfl Tryz.ntmps172 (by simp) ?_
  have hs := St.init w
  repeat' (first | ((apply aL 138; refine JL_o (by exact aA en138 rfl (pS _ a.1 b.1 ha.1 hb.1)) rfl rfl ?_; rintro _ _ ⟨rfl, hE⟩; have hs := hs.ext hE; (try simp only [zcc] at hs))) | (apply aH) | ((apply aC); exact zop; first | (exact rfl; exact rfl) | exact rfl) | (apply aQ) | (apply aB) | (apply aF (t := 2); refine JL_o (by apply bN; exact bC hs rfl) rfl rfl ?_; rintro _ _ ⟨b2, rfl, hb2, hs, hE⟩) | (apply aF (t := 3); refine JL_o (by apply bN; exact bC hs rfl) rfl rfl ?_; rintro _ _ ⟨b3, rfl, hb3, hs, hE⟩))
  refine aM Tryz.func172 rfl (.tmp rfl .nil) ⟨rfl, hs.frm.ext⟩
end Go.Eng
end
section
namespace Go.Eng
open Go.Proofs
set_option linter.unusedSimpArgs false
set_option linter.unusedVariables false
abbrev s0 : ST := (0, 0)
def cZ (N : List NM) (x : Int) : NM := N.getD (x - 1).toNat n0
def sS (x : NM) (plus : Bool) : List ST := if plus then x.2.2.2 else x.2.2.1
def zS (plus : Bool) (l : List Int) (id : Int) : Int := if plus then gP l id else outC l id
def zR (plus : Bool) (l : List Int) (id : Int) : List Int := if plus then fX l id else outL l id
def qD (N : List NM) (n : Int) (row : List ST) (plus : Bool) (i : Nat) : Bool :=
  (decide (i = 0) || decide ((row.getD (i - 1) s0).1 < (row.getD i s0).1)) && (isM N (row.getD i s0).2 && ((hasT (cZ N n).2.1 (row.getD i s0).1 != plus) && (decide (zS plus (cZ N n).2.1 (row.getD i s0).1 = 0) &&
    (decide ((cZ N (row.getD i s0).2).2.1 = zR plus (cZ N n).2.1 (row.getD i s0).1) && decide (((row.getD i s0).1, n) ∈ sS (cZ N (row.getD i s0).2) plus)))))
def fY (N : List NM) (n : Int) (row : List ST) (plus : Bool) : Bool := (List.range row.length).all (qD N n row plus)
theorem dS {N : List NM} {n : Int} {row : List ST} {plus : Bool} {k : Nat} (hk : k < row.length) (h : qD N n row plus k = false) : fY N n row plus = false := by
  unfold fY
  rw [List.all_eq_false]
  exact ⟨k, List.mem_range.2 hk, by rw [h]; decide⟩
theorem vF {N : List NM} {n : Int} {row : List ST} {plus : Bool} (h : ∀ k, k < row.length → qD N n row plus k = true) : fY N n row plus = true := by
  unfold fY
  rw [List.all_eq_true]
  exact fun k hk => h k (List.mem_range.1 hk)
theorem cO {N : List NM} {k : Nat} {x : NM} (h : N[k]? = some x) : cZ N ((k : Int) + 1) = x := by
  unfold cZ
  rw [show ((k : Int) + 1 - 1).toNat = k by omega, cK h]
attribute [local irreducible] Hold J JL JD JX JXat OpR OpG Ret RetV Is Blk Row
set_option maxRecDepth 100000
set_option maxHeartbeats 2000000
theorem mI (w : World) (a a2 a3 : Option Addr) (n c n2 c2 n3 c3 : Nat) (N : List NM) (k0 : Nat) (row : List ST) (plus : Bool) (h : Sl eD All w a n c N) (hk0 : k0 < n) (hrow : Sl dStp All w a3 n3 c3 row) :
    Ret Tryz.prog 120 #[.agg #[.slice a n c, .slice a2 n2 c2], .int .i64 ((k0 : Int) + 1), .slice a3 n3 c3, .bool plus] w fun v w' => v = .bool (fY N ((k0 : Int) + 1) row plus) ∧ Ext w w' := by
  refine bI (l := [_, _, _, _]) Tryz.func120 rfl Tryz.ntmps120 (by simp) ?_
  have hs := St.init w
  have hl := h.len
  have hl3 := hrow.len
  have hNo := qL h
  have hro := mB hrow
  obtain ⟨rs, hr, hm⟩ := Sl.raw (D := gD) h
  have hmx : n ≤ 9223372036854775807 := by have h3 := h.le; have h4 := h.cap; unfold maxLen at h4; omega
  have hmx3 : n3 ≤ 9223372036854775807 := by have h3 := hrow.le; have h4 := hrow.cap; unfold maxLen at h4; omega
  obtain ⟨p, o, rfl⟩ := hr.sl.addr (by omega)
  have hy0 : N[k0]? = some (N[k0]'(by omega)) := List.getElem?_eq_getElem (by omega)
  obtain ⟨y0, hyd0⟩ : ∃ y, y = N[k0]'(by omega) := ⟨_, rfl⟩
  rw [← hyd0] at hy0
  obtain ⟨r0, hr0, _, e0, _⟩ := hm.get hy0
  have mT : Sl dId All w r0.2.1.1 r0.2.1.2.1 r0.2.1.2.2 y0.2.1 := e0
  have hr0' : rs[((k0 : Int) + 1 - 1).toNat]? = some r0 := by rw [show ((k0 : Int) + 1 - 1).toNat = k0 by omega]; exact hr0
  have hnode := cO hy0
  obtain ⟨T, hT⟩ : ∃ T, T = y0.2.1 := ⟨_, rfl⟩
  rw [← hT] at mT
  repeat' (first | (apply aH) | ((apply aC); (first | (apply aT; exact aX (i := ((k0 : Int) + 1 - 1).toNat) (j := 1) (hr.st hs) hr0' rfl rfl rfl aI) | exact zop); first | (exact rfl; exact rfl) | exact rfl) | (apply aQ) | (apply aB) | (apply aN) | (apply tF) | (apply tD) | (apply aF (t := 4); refine JL_o (by apply bN; exact bC hs rfl) rfl rfl ?_; rintro _ _ ⟨b4, rfl, hb4, hs, hE⟩))
  refine bT (α := Nat) [(1, _), (2, _), (3, _), (4, _), (9, _), (24, _), (25, _)] (fun k => [(10, .bool true), (26, .int .i64 k)]) (fun k w' => St w NoF w' [Blk b4 (.cells #[.slice (some ⟨p, o, none⟩) n c, .slice a2 n2 c2] 57 (0, 0))] ∧ k ≤ n3 ∧ ∀ j, j < k → qD N ((k0 : Int) + 1) row plus j = true) (fun k => n3 - k) 0 ⟨hs, Nat.zero_le _, fun j hj => absurd hj (Nat.not_lt_zero _)⟩ zss ?_
  rintro k w2 ⟨hs1, hk, hall⟩ ih
  have hs : St w NoF w2 [_] := hs1
  by_cases hlt : k < n3
  · obtain ⟨p3, o3, rfl⟩ := hrow.sl.addr (by omega)
    have hs : St w NoF w2 [_] := hs1
    have hv : row[k]? = some (row[k]'(by omega)) := List.getElem?_eq_getElem (by omega)
    obtain ⟨s, hsd⟩ : ∃ s, s = row[k]'(by omega) := ⟨_, rfl⟩
    rw [← hsd] at hv
    have hso := hro s (List.mem_of_getElem? hv)
    obtain ⟨q, hq⟩ : ∃ q, q = row.getD (k - 1) s0 := ⟨_, rfl⟩
    have hprev : (k : Int) > 0 → row[((k : Int) - 1).toNat]? = some q := fun hk0 => by
      rw [show ((k : Int) - 1).toNat = k - 1 by omega, hq, cK (List.getElem?_eq_getElem (by omega : k - 1 < row.length))]
      exact List.getElem?_eq_getElem _
    have hqo : (k : Int) > 0 → okT q := fun hk0 => hro q (List.mem_of_getElem? (hprev hk0))
    obtain ⟨cc, hcc⟩ : ∃ cc, cc = cmpI q.1 s.1 := ⟨_, rfl⟩
    have hccl : cc < 0 ↔ q.1 < s.1 := by rw [hcc]; unfold cmpI; split <;> (try split) <;> omega
    have hst : qD N ((k0 : Int) + 1) row plus k = ((decide (k = 0) || decide (q.1 < s.1)) && (isM N s.2 && ((hasT T s.1 != plus) && (decide (zS plus T s.1 = 0) && (decide ((cZ N s.2).2.1 = zR plus T s.1) && decide ((s.1, (k0 : Int) + 1) ∈ sS (cZ N s.2) plus)))))) := by
      unfold qD
      rw [hnode, cK hv, ← hq, hT]
    by_cases hadj : (k : Int) > 0 → cc < 0
    rotate_left
    · have hk0 : (k : Int) > 0 := Decidable.by_contra fun h => hadj (fun h2 => absurd h2 h)
      have hccn : ¬ cc < 0 := fun h => hadj (fun _ => h)
      have hf : fY N ((k0 : Int) + 1) row plus = false := dS (k := k) (by omega) (by
        rw [hst, decide_eq_false (by omega : ¬ k = 0), decide_eq_false (fun h => hccn (hccl.2 h))]; rfl)
      rw [hf]
      repeat' (first | ((apply ax_c; apply bY 172; exact rfl; exact rfl; exact gb; (intro W X hN hs; exact aA lL rfl (dM _ q s (hqo hk0) hso)); (rintro _ _ _ _ ⟨rfl, hE⟩; first | exact hE | exact Fresh.ext hf); rintro W X _ _ hN hs ⟨rfl, hE⟩; rw [← hcc]; have hs := hs.ext hE; (try simp only [zcc] at hs); refine JX.at hs ?_)) | (apply aH) | ((first | (apply aC) | (apply JX_f; exact rfl; intro W X hs) | (apply dB; exact rfl; exact rfl; exact gb; intro W X hs)); (first | (apply aT; first | exact aO (i := ((k : Int) - 1).toNat) (hrow.st hs) (hprev hk0) rfl rfl aI | exact aO (i := k) (hrow.st hs) hv rfl rfl aI) | exact zop); first | (exact rfl; exact rfl) | exact rfl) | (apply aQ) | (apply aB) | (apply aN) | (apply bG; refine bP rfl ?_) | (apply aV) | (apply aF (t := 12); refine JL_o (by apply aR; exact aJ hs) rfl rfl ?_; rintro _ _ ⟨b12, rfl, hb12, hs, hE⟩) | (apply aU; refine JL_u (by apply aP; exact aK hs rfl rfl rfl) rfl ?_; rintro _ _ ⟨hs, hF⟩) | (apply aG; first | refine aS rfl ob ?_ | refine bB rfl gb ?_) | (apply bV; (refine bQ (id := 6) [0, 1, 3, 7, 7, 23, 63, 127, 7, 511, 1023, 2047, 4095, 8191, 8191, 24575, 65535, 131071, 262143, 524287, 1048575, 1048575, 3145727, 8388607, 1048575, 33554431, 67108863] [(0, 0), (1, 0), (2, 0), (3, 0), (4, 0), (5, 0), (6, 0), (7, 0), (8, 0), (9, 1), (10, 0), (11, 0), (12, 0), (13, 0), (14, 0), (15, 0), (16, 1), (17, 0), (18, 0), (19, 0), (20, 0), (21, 0), (22, 0), (24, 0), (23, 1), (25, 0), (26, 0)] [] hs cQ (by kernel_rfl) (by kernel_rfl) (by kernel_rfl) (by kernel_rfl) (by kernel_rfl) ?_)) | (refine bU (fun W hs => ?_)) | (refine cM rfl rfl gb rfl ?_) | (refine cU rfl rfl gb rfl ?_) | (apply cB))
      refine aM Tryz.func120 rfl (.tmp rfl .nil) ⟨rfl, hs.frm.ext⟩
    have hadB : (decide (k = 0) || decide (q.1 < s.1)) = true := by
      by_cases e : k = 0
      · rw [decide_eq_true e]; rfl
      · rw [decide_eq_true (hccl.1 (hadj (by omega)))]; exact Bool.or_true _
    rw [hadB, Bool.true_and] at hst
    obtain ⟨ib, his⟩ : ∃ ib, isM N s.2 = ib := ⟨_, rfl⟩
    obtain ⟨hb, hhas⟩ : ∃ hb, hasT T s.1 = hb := ⟨_, rfl⟩
    rw [his, hhas] at hst
    cases plus with
    | true =>
      cases ib with
      | false =>
        rw [dS (k := k) (by omega) (by rw [hst]; rfl)]
        repeat' (first | ((apply ax_c; apply bY 172; exact rfl; exact rfl; exact gb; (intro W X hN hs; exact aA lL rfl (dM _ q s (hqo (by assumption)) hso)); (rintro _ _ _ _ ⟨rfl, hE⟩; first | exact hE | exact Fresh.ext hf); rintro W X _ _ hN hs ⟨rfl, hE⟩; rw [← hcc]; have hs := hs.ext hE; (try simp only [zcc] at hs); refine JX.at hs ?_)) | ((apply ax_c; apply bY 105; exact rfl; exact rfl; exact gb; (intro W X hN hs; exact aA eO rfl (is_r _ (some ⟨p, o, none⟩) a2 n c n2 c2 N s.2 (h.st hs) hso.2)); (rintro _ _ _ _ ⟨rfl, hE⟩; first | exact hE | exact Fresh.ext hf); rintro W X _ _ hN hs ⟨rfl, hE⟩; rw [his]; have hs := hs.ext hE; (try simp only [zcc] at hs); refine JX.at hs ?_)) | (apply aH) | ((first | (apply aC) | (apply JX_f; exact rfl; intro W X hs) | (apply dB; exact rfl; exact rfl; exact gb; intro W X hs)); (first | (apply aT; first | exact aO (i := ((k : Int) - 1).toNat) (hrow.st hs) (hprev (by assumption)) rfl rfl aI | exact aO (i := k) (hrow.st hs) hv rfl rfl aI) | exact zop); first | (exact rfl; exact rfl) | exact rfl) | (apply aQ) | (apply aB) | (apply aN) | (apply bG; refine bP rfl ?_) | (apply aV) | (apply aF (t := 12); refine JL_o (by apply aR; exact aJ hs) rfl rfl ?_; rintro _ _ ⟨b12, rfl, hb12, hs, hE⟩) | (apply aU; refine JL_u (by apply aP; exact aK hs rfl rfl rfl) rfl ?_; rintro _ _ ⟨hs, hF⟩) | (apply aG; first | refine aS rfl ob ?_ | refine bB rfl gb ?_) | (apply bV; (refine bQ (id := 6) [0, 1, 3, 7, 7, 23, 63, 127, 7, 511, 1023, 2047, 4095, 8191, 8191, 24575, 65535, 131071, 262143, 524287, 1048575, 1048575, 3145727, 8388607, 1048575, 33554431, 67108863] [(0, 0), (1, 0), (2, 0), (3, 0), (4, 0), (5, 0), (6, 0), (7, 0), (8, 0), (9, 1), (10, 0), (11, 0), (12, 0), (13, 0), (14, 0), (15, 0), (16, 1), (17, 0), (18, 0), (19, 0), (20, 0), (21, 0), (22, 0), (24, 0), (23, 1), (25, 0), (26, 0)] [] hs cQ (by kernel_rfl) (by kernel_rfl) (by kernel_rfl) (by kernel_rfl) (by kernel_rfl) ?_)) | (refine bU (fun W hs => ?_)) | (refine cM rfl rfl gb rfl ?_) | (refine cU rfl rfl gb rfl ?_) | (refine cE rfl rfl (fun hq => ?_) (fun hq => ?_); (fail_if_success (exact absurd (by clear hq; first | assumption | omega) (not_not_intro hq))); rotate_left; (fail_if_success (exact absurd (by clear hq; first | assumption | omega) hq)); rotate_left) | (apply cB))
        all_goals refine aM Tryz.func120 rfl (.tmp rfl .nil) ⟨rfl, hs.frm.ext⟩
      | true =>
        obtain ⟨j, yj, hj, hyj, hyu⟩ := isM_true.1 his
        have hjl := (List.getElem?_eq_some_iff.1 hyj).1
        obtain ⟨rj, hrj0, f1, f2, f3, f4⟩ := hm.get hyj
        have mj1 : Sl dId All w rj.2.1.1 rj.2.1.2.1 rj.2.1.2.2 yj.2.1 := f2
        have mj2 : Sl dStp All w rj.2.2.1.1 rj.2.2.1.2.1 rj.2.2.1.2.2 yj.2.2.1 := f3
        have mj3 : Sl dStp All w rj.2.2.2.1 rj.2.2.2.2.1 rj.2.2.2.2.2 yj.2.2.2 := f4
        have hrj : rs[(s.2 - 1).toNat]? = some rj := by rw [hj, show ((j : Int) + 1 - 1).toNat = j by omega]; exact hrj0
        have hsj : 1 ≤ s.2 ∧ s.2 ≤ n := by omega
        have hnj : cZ N s.2 = yj := by rw [hj]; exact cO hyj
        rw [hnj] at hst
        cases hb with
        | true =>
          rw [dS (k := k) (by omega) (by rw [hst]; rfl)]
          repeat' (first | ((apply ax_c; apply bY 172; exact rfl; exact rfl; exact gb; (intro W X hN hs; exact aA lL rfl (dM _ q s (hqo (by assumption)) hso)); (rintro _ _ _ _ ⟨rfl, hE⟩; first | exact hE | exact Fresh.ext hf); rintro W X _ _ hN hs ⟨rfl, hE⟩; rw [← hcc]; have hs := hs.ext hE; (try simp only [zcc] at hs); refine JX.at hs ?_)) | ((apply ax_c; apply bY 105; exact rfl; exact rfl; exact gb; (intro W X hN hs; exact aA eO rfl (is_r _ (some ⟨p, o, none⟩) a2 n c n2 c2 N s.2 (h.st hs) hso.2)); (rintro _ _ _ _ ⟨rfl, hE⟩; first | exact hE | exact Fresh.ext hf); rintro W X _ _ hN hs ⟨rfl, hE⟩; rw [his]; have hs := hs.ext hE; (try simp only [zcc] at hs); refine JX.at hs ?_)) | ((apply ax_c; apply bY 47; exact rfl; exact rfl; exact gb; (intro W X hN hs; exact aA en47 rfl (qF _ r0.2.1.1 r0.2.1.2.1 r0.2.1.2.2 T s.1 (mT.st hs))); (rintro _ _ _ _ ⟨rfl, hE⟩; first | exact hE | exact Fresh.ext hf); rintro W X _ _ hN hs ⟨rfl, hE⟩; rw [hhas]; have hs := hs.ext hE; (try simp only [zcc] at hs); refine JX.at hs ?_)) | (apply aH) | ((first | (apply aC) | (apply JX_f; exact rfl; intro W X hs) | (apply dB; exact rfl; exact rfl; exact gb; intro W X hs)); (first | (apply aT; first | exact aO (i := ((k : Int) - 1).toNat) (hrow.st hs) (hprev (by assumption)) rfl rfl aI | exact aO (i := k) (hrow.st hs) hv rfl rfl aI) | exact zop); first | (exact rfl; exact rfl) | exact rfl) | (apply aQ) | (apply aB) | (apply aN) | (apply bG; refine bP rfl ?_) | (apply aV) | (apply aF (t := 12); refine JL_o (by apply aR; exact aJ hs) rfl rfl ?_; rintro _ _ ⟨b12, rfl, hb12, hs, hE⟩) | (apply aU; refine JL_u (by apply aP; exact aK hs rfl rfl rfl) rfl ?_; rintro _ _ ⟨hs, hF⟩) | (apply aG; first | refine aS rfl ob ?_ | refine bB rfl gb ?_) | (apply bV; (refine bQ (id := 6) [0, 1, 3, 7, 7, 23, 63, 127, 7, 511, 1023, 2047, 4095, 8191, 8191, 24575, 65535, 131071, 262143, 524287, 1048575, 1048575, 3145727, 8388607, 1048575, 33554431, 67108863] [(0, 0), (1, 0), (2, 0), (3, 0), (4, 0), (5, 0), (6, 0), (7, 0), (8, 0), (9, 1), (10, 0), (11, 0), (12, 0), (13, 0), (14, 0), (15, 0), (16, 1), (17, 0), (18, 0), (19, 0), (20, 0), (21, 0), (22, 0), (24, 0), (23, 1), (25, 0), (26, 0)] [] hs cQ (by kernel_rfl) (by kernel_rfl) (by kernel_rfl) (by kernel_rfl) (by kernel_rfl) ?_)) | (refine bU (fun W hs => ?_)) | (refine cM rfl rfl gb rfl ?_) | (refine cU rfl rfl gb rfl ?_) | (refine cE rfl rfl (fun hq => ?_) (fun hq => ?_); (fail_if_success (exact absurd (by clear hq; first | assumption | omega) (not_not_intro hq))); rotate_left; (fail_if_success (exact absurd (by clear hq; first | assumption | omega) hq)); rotate_left) | (apply cB))
          all_goals refine aM Tryz.func120 rfl (.tmp rfl .nil) ⟨rfl, hs.frm.ext⟩
        | false =>
          obtain ⟨z, hz⟩ : ∃ z, z = gP T s.1 := ⟨_, rfl⟩
          obtain ⟨ZL, hZL⟩ : ∃ z, z = fX T s.1 := ⟨_, rfl⟩
          have hzt : zS true T s.1 = z := by rw [hz]; rfl
          have hzl : zR true T s.1 = ZL := by rw [hZL]; rfl
          have hbk : sS yj true = yj.2.2.2 := rfl
          have hZo : ∀ x ∈ ZL, okId x := by rw [hZL]; unfold fX; split; exact (fun x hx => (insT_mem.1 hx).elim (fun e => e ▸ hso.1) (fun e => jW mT x e)); exact (fun x hx => by cases hx)
          rw [hzt, hzl, hbk] at hst
          by_cases hz0 : z = 0
          rotate_left
          · rw [dS (k := k) (by omega) (by rw [hst, decide_eq_false hz0]; rfl)]
            repeat' (first | ((apply ax_c; apply bY 172; exact rfl; exact rfl; exact gb; (intro W X hN hs; exact aA lL rfl (dM _ q s (hqo (by assumption)) hso)); (rintro _ _ _ _ ⟨rfl, hE⟩; first | exact hE | exact Fresh.ext hf); rintro W X _ _ hN hs ⟨rfl, hE⟩; rw [← hcc]; have hs := hs.ext hE; (try simp only [zcc] at hs); refine JX.at hs ?_)) | ((apply ax_c; apply bY 105; exact rfl; exact rfl; exact gb; (intro W X hN hs; exact aA eO rfl (is_r _ (some ⟨p, o, none⟩) a2 n c n2 c2 N s.2 (h.st hs) hso.2)); (rintro _ _ _ _ ⟨rfl, hE⟩; first | exact hE | exact Fresh.ext hf); rintro W X _ _ hN hs ⟨rfl, hE⟩; rw [his]; have hs := hs.ext hE; (try simp only [zcc] at hs); refine JX.at hs ?_)) | ((apply ax_c; apply bY 47; exact rfl; exact rfl; exact gb; (intro W X hN hs; exact aA en47 rfl (qF _ r0.2.1.1 r0.2.1.2.1 r0.2.1.2.2 T s.1 (mT.st hs))); (rintro _ _ _ _ ⟨rfl, hE⟩; first | exact hE | exact Fresh.ext hf); rintro W X _ _ hN hs ⟨rfl, hE⟩; rw [hhas]; have hs := hs.ext hE; (try simp only [zcc] at hs); refine JX.at hs ?_)) | ((apply aL 45; refine JL_o (by exact aA en45 rfl (lU _ r0.2.1.1 r0.2.1.2.1 r0.2.1.2.2 T s.1 (mT.st hs) hso.1)) rfl rfl ?_; rintro _ _ ⟨aw, rfl, hf⟩; rw [← hZL] at hf; rw [← hz, ← hZL]; have hs := hs.fresh hf; (try simp only [zcc] at hs))) | (apply aH) | ((first | (apply aC) | (apply JX_f; exact rfl; intro W X hs) | (apply dB; exact rfl; exact rfl; exact gb; intro W X hs)); (first | (apply aT; first | exact aO (i := ((k : Int) - 1).toNat) (hrow.st hs) (hprev (by assumption)) rfl rfl aI | exact aO (i := k) (hrow.st hs) hv rfl rfl aI | exact aO (i := (s.2 - 1).toNat) (hr.st hs) hrj rfl rfl aI) | exact zop); first | (exact rfl; exact rfl) | exact rfl) | (apply aQ) | (apply aB) | (apply aN) | (apply bG; refine bP rfl ?_) | (apply aV) | (apply aF (t := 12); refine JL_o (by apply aR; exact aJ hs) rfl rfl ?_; rintro _ _ ⟨b12, rfl, hb12, hs, hE⟩) | (apply aF (t := 13); refine JL_o (by apply aR; exact aJ hs) rfl rfl ?_; rintro _ _ ⟨b13, rfl, hb13, hs, hE⟩) | (apply aU; refine JL_u (by apply aP; exact aK hs rfl rfl rfl) rfl ?_; rintro _ _ ⟨hs, hF⟩) | (apply bK; (refine cY rfl gb rfl ?_)) | (apply aG; first | refine aS rfl ob ?_ | refine bB rfl gb ?_ | refine bD rfl gb ?_) | (apply bV; (refine bQ (id := 6) [0, 1, 3, 7, 7, 23, 63, 127, 7, 511, 1023, 2047, 4095, 8191, 8191, 24575, 65535, 131071, 262143, 524287, 1048575, 1048575, 3145727, 8388607, 1048575, 33554431, 67108863] [(0, 0), (1, 0), (2, 0), (3, 0), (4, 0), (5, 0), (6, 0), (7, 0), (8, 0), (9, 1), (10, 0), (11, 0), (12, 0), (13, 0), (14, 0), (15, 0), (16, 1), (17, 0), (18, 0), (19, 0), (20, 0), (21, 0), (22, 0), (24, 0), (23, 1), (25, 0), (26, 0)] [] hs cQ (by kernel_rfl) (by kernel_rfl) (by kernel_rfl) (by kernel_rfl) (by kernel_rfl) ?_)) | (refine bU (fun W hs => ?_)) | (refine cM rfl rfl gb rfl ?_) | (refine cU rfl rfl gb rfl ?_) | (refine cE rfl rfl (fun hq => ?_) (fun hq => ?_); (fail_if_success (exact absurd (by clear hq; first | assumption | omega) (not_not_intro hq))); rotate_left; (fail_if_success (exact absurd (by clear hq; first | assumption | omega) hq)); rotate_left) | (apply cB))
            all_goals refine aM Tryz.func120 rfl (.tmp rfl .nil) ⟨rfl, hs.frm.ext⟩
          rw [decide_eq_true hz0] at hst
          have hz1 : ¬ z ≠ 0 := fun e => e hz0
          by_cases hty : yj.2.1 = ZL
          rotate_left
          · have hte : decide (yj.2.1 = ZL) = false := decide_eq_false hty
            rw [dS (k := k) (by omega) (by rw [hst, hte]; rfl)]
            repeat' (first | ((apply ax_c; apply bY 172; exact rfl; exact rfl; exact gb; (intro W X hN hs; exact aA lL rfl (dM _ q s (hqo (by assumption)) hso)); (rintro _ _ _ _ ⟨rfl, hE⟩; first | exact hE | exact Fresh.ext hf); rintro W X _ _ hN hs ⟨rfl, hE⟩; rw [← hcc]; have hs := hs.ext hE; (try simp only [zcc] at hs); refine JX.at hs ?_)) | ((apply ax_c; apply bY 105; exact rfl; exact rfl; exact gb; (intro W X hN hs; exact aA eO rfl (is_r _ (some ⟨p, o, none⟩) a2 n c n2 c2 N s.2 (h.st hs) hso.2)); (rintro _ _ _ _ ⟨rfl, hE⟩; first | exact hE | exact Fresh.ext hf); rintro W X _ _ hN hs ⟨rfl, hE⟩; rw [his]; have hs := hs.ext hE; (try simp only [zcc] at hs); refine JX.at hs ?_)) | ((apply ax_c; apply bY 47; exact rfl; exact rfl; exact gb; (intro W X hN hs; exact aA en47 rfl (qF _ r0.2.1.1 r0.2.1.2.1 r0.2.1.2.2 T s.1 (mT.st hs))); (rintro _ _ _ _ ⟨rfl, hE⟩; first | exact hE | exact Fresh.ext hf); rintro W X _ _ hN hs ⟨rfl, hE⟩; rw [hhas]; have hs := hs.ext hE; (try simp only [zcc] at hs); refine JX.at hs ?_)) | ((apply aL 45; refine JL_o (by exact aA en45 rfl (lU _ r0.2.1.1 r0.2.1.2.1 r0.2.1.2.2 T s.1 (mT.st hs) hso.1)) rfl rfl ?_; rintro _ _ ⟨aw, rfl, hf⟩; rw [← hZL] at hf; rw [← hz, ← hZL]; have hs := hs.fresh hf; (try simp only [zcc] at hs))) | ((apply bE 43; refine bM rfl gb (by exact aA en43 rfl (dY _ rj.2.1.1 aw rj.2.1.2.1 rj.2.1.2.2 ZL.length ZL.length yj.2.1 ZL (mj1.st hs) (slU hs zmm hZo))) rfl rfl ?_; rintro _ _ ⟨rfl, hE⟩; rw [hte]; have hs := hs.ext hE; (try simp only [zcc] at hs))) | (apply aH) | ((first | (apply aC) | (apply bA; exact rfl; exact gb) | (apply JX_f; exact rfl; intro W X hs) | (apply dB; exact rfl; exact rfl; exact gb; intro W X hs)); (first | (apply aT; first | exact aO (i := ((k : Int) - 1).toNat) (hrow.st hs) (hprev (by assumption)) rfl rfl aI | exact aO (i := k) (hrow.st hs) hv rfl rfl aI | exact aO (i := (s.2 - 1).toNat) (hr.st hs) hrj rfl rfl aI) | exact zop); first | (exact rfl; exact rfl) | exact rfl) | (apply aQ) | (apply aB) | (apply aN) | (apply bG; refine bP rfl ?_) | (apply aV) | (apply aF (t := 12); refine JL_o (by apply aR; exact aJ hs) rfl rfl ?_; rintro _ _ ⟨b12, rfl, hb12, hs, hE⟩) | (apply aF (t := 13); refine JL_o (by apply aR; exact aJ hs) rfl rfl ?_; rintro _ _ ⟨b13, rfl, hb13, hs, hE⟩) | (apply aU; refine JL_u (by apply aP; exact aK hs rfl rfl rfl) rfl ?_; rintro _ _ ⟨hs, hF⟩) | (apply bK; (refine cY rfl gb rfl ?_)) | (apply aG; first | refine aS rfl ob ?_ | refine bB rfl gb ?_ | refine bD rfl gb ?_) | (apply bV; (refine bQ (id := 6) [0, 1, 3, 7, 7, 23, 63, 127, 7, 511, 1023, 2047, 4095, 8191, 8191, 24575, 65535, 131071, 262143, 524287, 1048575, 1048575, 3145727, 8388607, 1048575, 33554431, 67108863] [(0, 0), (1, 0), (2, 0), (3, 0), (4, 0), (5, 0), (6, 0), (7, 0), (8, 0), (9, 1), (10, 0), (11, 0), (12, 0), (13, 0), (14, 0), (15, 0), (16, 1), (17, 0), (18, 0), (19, 0), (20, 0), (21, 0), (22, 0), (24, 0), (23, 1), (25, 0), (26, 0)] [] hs cQ (by kernel_rfl) (by kernel_rfl) (by kernel_rfl) (by kernel_rfl) (by kernel_rfl) ?_)) | (refine bU (fun W hs => ?_)) | (refine cM rfl rfl gb rfl ?_) | (refine cU rfl rfl gb rfl ?_) | (refine cE rfl rfl (fun hq => ?_) (fun hq => ?_); (fail_if_success (exact absurd (by clear hq; first | assumption | omega) (not_not_intro hq))); rotate_left; (fail_if_success (exact absurd (by clear hq; first | assumption | omega) hq)); rotate_left) | (apply cB))
            all_goals refine aM Tryz.func120 rfl (.tmp rfl .nil) ⟨rfl, hs.frm.ext⟩
          have hte : decide (yj.2.1 = ZL) = true := decide_eq_true hty
          rw [hte] at hst
          by_cases hin : (s.1, (k0 : Int) + 1) ∈ yj.2.2.2
          rotate_left
          · have hke : decide ((s.1, (k0 : Int) + 1) ∈ yj.2.2.2) = false := decide_eq_false hin
            rw [dS (k := k) (by omega) (by rw [hst, hke]; rfl)]
            repeat' (first | ((apply ax_c; apply bY 172; exact rfl; exact rfl; exact gb; (intro W X hN hs; exact aA lL rfl (dM _ q s (hqo (by assumption)) hso)); (rintro _ _ _ _ ⟨rfl, hE⟩; first | exact hE | exact Fresh.ext hf); rintro W X _ _ hN hs ⟨rfl, hE⟩; rw [← hcc]; have hs := hs.ext hE; (try simp only [zcc] at hs); refine JX.at hs ?_)) | ((apply ax_c; apply bY 105; exact rfl; exact rfl; exact gb; (intro W X hN hs; exact aA eO rfl (is_r _ (some ⟨p, o, none⟩) a2 n c n2 c2 N s.2 (h.st hs) hso.2)); (rintro _ _ _ _ ⟨rfl, hE⟩; first | exact hE | exact Fresh.ext hf); rintro W X _ _ hN hs ⟨rfl, hE⟩; rw [his]; have hs := hs.ext hE; (try simp only [zcc] at hs); refine JX.at hs ?_)) | ((apply ax_c; apply bY 47; exact rfl; exact rfl; exact gb; (intro W X hN hs; exact aA en47 rfl (qF _ r0.2.1.1 r0.2.1.2.1 r0.2.1.2.2 T s.1 (mT.st hs))); (rintro _ _ _ _ ⟨rfl, hE⟩; first | exact hE | exact Fresh.ext hf); rintro W X _ _ hN hs ⟨rfl, hE⟩; rw [hhas]; have hs := hs.ext hE; (try simp only [zcc] at hs); refine JX.at hs ?_)) | ((apply aL 45; refine JL_o (by exact aA en45 rfl (lU _ r0.2.1.1 r0.2.1.2.1 r0.2.1.2.2 T s.1 (mT.st hs) hso.1)) rfl rfl ?_; rintro _ _ ⟨aw, rfl, hf⟩; rw [← hZL] at hf; rw [← hz, ← hZL]; have hs := hs.fresh hf; (try simp only [zcc] at hs))) | ((apply bE 43; refine bM rfl gb (by exact aA en43 rfl (dY _ rj.2.1.1 aw rj.2.1.2.1 rj.2.1.2.2 ZL.length ZL.length yj.2.1 ZL (mj1.st hs) (slU hs zmm hZo))) rfl rfl ?_; rintro _ _ ⟨rfl, hE⟩; rw [hte]; have hs := hs.ext hE; (try simp only [zcc] at hs))) | ((apply bE 184; refine bM rfl gb (by exact aA en184 rfl (sO _ rj.2.2.2.1 rj.2.2.2.2.1 rj.2.2.2.2.2 yj.2.2.2 (s.1, (k0 : Int) + 1) (mj3.st hs))) rfl rfl ?_; rintro _ _ ⟨rfl, hE⟩; rw [hke]; have hs := hs.ext hE; (try simp only [zcc] at hs))) | (apply aH) | ((first | (apply aC) | (apply bA; exact rfl; exact gb) | (apply JX_f; exact rfl; intro W X hs) | (apply dB; exact rfl; exact rfl; exact gb; intro W X hs)); (first | (apply aT; first | exact aO (i := ((k : Int) - 1).toNat) (hrow.st hs) (hprev (by assumption)) rfl rfl aI | exact aO (i := k) (hrow.st hs) hv rfl rfl aI | exact aO (i := (s.2 - 1).toNat) (hr.st hs) hrj rfl rfl aI) | exact zop); first | (exact rfl; exact rfl) | exact rfl) | (apply aQ) | (apply aB) | (apply aN) | (apply bG; refine bP rfl ?_) | (apply aV) | (apply aF (t := 12); refine JL_o (by apply aR; exact aJ hs) rfl rfl ?_; rintro _ _ ⟨b12, rfl, hb12, hs, hE⟩) | (apply aF (t := 13); refine JL_o (by apply aR; exact aJ hs) rfl rfl ?_; rintro _ _ ⟨b13, rfl, hb13, hs, hE⟩) | (apply aU; refine JL_u (by apply aP; exact aK hs rfl rfl rfl) rfl ?_; rintro _ _ ⟨hs, hF⟩) | (apply aG; first | refine aS rfl ob ?_ | refine bB rfl gb ?_ | refine bD rfl gb ?_) | (apply bV; (refine bQ (id := 6) [0, 1, 3, 7, 7, 23, 63, 127, 7, 511, 1023, 2047, 4095, 8191, 8191, 24575, 65535, 131071, 262143, 524287, 1048575, 1048575, 3145727, 8388607, 1048575, 33554431, 67108863] [(0, 0), (1, 0), (2, 0), (3, 0), (4, 0), (5, 0), (6, 0), (7, 0), (8, 0), (9, 1), (10, 0), (11, 0), (12, 0), (13, 0), (14, 0), (15, 0), (16, 1), (17, 0), (18, 0), (19, 0), (20, 0), (21, 0), (22, 0), (24, 0), (23, 1), (25, 0), (26, 0)] [] hs cQ (by kernel_rfl) (by kernel_rfl) (by kernel_rfl) (by kernel_rfl) (by kernel_rfl) ?_)) | (refine bU (fun W hs => ?_)) | (refine cM rfl rfl gb rfl ?_) | (refine cU rfl rfl gb rfl ?_) | (refine cE rfl rfl (fun hq => ?_) (fun hq => ?_); (fail_if_success (exact absurd (by clear hq; first | assumption | omega) (not_not_intro hq))); rotate_left; (fail_if_success (exact absurd (by clear hq; first | assumption | omega) hq)); rotate_left) | (apply cB))
            all_goals refine aM Tryz.func120 rfl (.tmp rfl .nil) ⟨rfl, hs.frm.ext⟩
          have hke : decide ((s.1, (k0 : Int) + 1) ∈ yj.2.2.2) = true := decide_eq_true hin
          rw [hke] at hst
          repeat' (first | ((apply ax_c; apply bY 172; exact rfl; exact rfl; exact gb; (intro W X hN hs; exact aA lL rfl (dM _ q s (hqo (by assumption)) hso)); (rintro _ _ _ _ ⟨rfl, hE⟩; first | exact hE | exact Fresh.ext hf); rintro W X _ _ hN hs ⟨rfl, hE⟩; rw [← hcc]; have hs := hs.ext hE; (try simp only [zcc] at hs); refine JX.at hs ?_)) | ((apply ax_c; apply bY 105; exact rfl; exact rfl; exact gb; (intro W X hN hs; exact aA eO rfl (is_r _ (some ⟨p, o, none⟩) a2 n c n2 c2 N s.2 (h.st hs) hso.2)); (rintro _ _ _ _ ⟨rfl, hE⟩; first | exact hE | exact Fresh.ext hf); rintro W X _ _ hN hs ⟨rfl, hE⟩; rw [his]; have hs := hs.ext hE; (try simp only [zcc] at hs); refine JX.at hs ?_)) | ((apply ax_c; apply bY 47; exact rfl; exact rfl; exact gb; (intro W X hN hs; exact aA en47 rfl (qF _ r0.2.1.1 r0.2.1.2.1 r0.2.1.2.2 T s.1 (mT.st hs))); (rintro _ _ _ _ ⟨rfl, hE⟩; first | exact hE | exact Fresh.ext hf); rintro W X _ _ hN hs ⟨rfl, hE⟩; rw [hhas]; have hs := hs.ext hE; (try simp only [zcc] at hs); refine JX.at hs ?_)) | ((apply aL 45; refine JL_o (by exact aA en45 rfl (lU _ r0.2.1.1 r0.2.1.2.1 r0.2.1.2.2 T s.1 (mT.st hs) hso.1)) rfl rfl ?_; rintro _ _ ⟨aw, rfl, hf⟩; rw [← hZL] at hf; rw [← hz, ← hZL]; have hs := hs.fresh hf; (try simp only [zcc] at hs))) | ((apply bE 43; refine bM rfl gb (by exact aA en43 rfl (dY _ rj.2.1.1 aw rj.2.1.2.1 rj.2.1.2.2 ZL.length ZL.length yj.2.1 ZL (mj1.st hs) (slU hs zmm hZo))) rfl rfl ?_; rintro _ _ ⟨rfl, hE⟩; rw [hte]; have hs := hs.ext hE; (try simp only [zcc] at hs))) | ((apply bE 184; refine bM rfl gb (by exact aA en184 rfl (sO _ rj.2.2.2.1 rj.2.2.2.2.1 rj.2.2.2.2.2 yj.2.2.2 (s.1, (k0 : Int) + 1) (mj3.st hs))) rfl rfl ?_; rintro _ _ ⟨rfl, hE⟩; rw [hke]; have hs := hs.ext hE; (try simp only [zcc] at hs))) | (apply aH) | ((first | (apply aC) | (apply bA; exact rfl; exact gb) | (apply JX_f; exact rfl; intro W X hs) | (apply dB; exact rfl; exact rfl; exact gb; intro W X hs)); (first | (apply aT; first | exact aO (i := ((k : Int) - 1).toNat) (hrow.st hs) (hprev (by assumption)) rfl rfl aI | exact aO (i := k) (hrow.st hs) hv rfl rfl aI | exact aO (i := (s.2 - 1).toNat) (hr.st hs) hrj rfl rfl aI) | exact zop); first | (exact rfl; exact rfl) | exact rfl) | (apply aQ) | (apply aB) | (apply aN) | (apply aW) | (apply aV) | (apply aF (t := 12); refine JL_o (by apply aR; exact aJ hs) rfl rfl ?_; rintro _ _ ⟨b12, rfl, hb12, hs, hE⟩) | (apply aF (t := 13); refine JL_o (by apply aR; exact aJ hs) rfl rfl ?_; rintro _ _ ⟨b13, rfl, hb13, hs, hE⟩) | (apply aU; refine JL_u (by apply aP; exact aK hs rfl rfl rfl) rfl ?_; rintro _ _ ⟨hs, hF⟩) | (apply aG; first | refine aS rfl ob ?_ | refine bB rfl gb ?_ | refine bD rfl gb ?_) | (apply bV; (refine bQ (id := 6) [0, 1, 3, 7, 7, 23, 63, 127, 7, 511, 1023, 2047, 4095, 8191, 8191, 24575, 65535, 131071, 262143, 524287, 1048575, 1048575, 3145727, 8388607, 1048575, 33554431, 67108863] [(0, 0), (1, 0), (2, 0), (3, 0), (4, 0), (5, 0), (6, 0), (7, 0), (8, 0), (9, 1), (10, 0), (11, 0), (12, 0), (13, 0), (14, 0), (15, 0), (16, 1), (17, 0), (18, 0), (19, 0), (20, 0), (21, 0), (22, 0), (24, 0), (23, 1), (25, 0), (26, 0)] [] hs cQ (by kernel_rfl) (by kernel_rfl) (by kernel_rfl) (by kernel_rfl) (by kernel_rfl) ?_)) | (refine bU (fun W hs => ?_)) | (refine cM rfl rfl gb rfl ?_) | (refine cU rfl rfl gb rfl ?_) | (refine cE rfl rfl (fun hq => ?_) (fun hq => ?_); (fail_if_success (exact absurd (by clear hq; first | assumption | omega) (not_not_intro hq))); rotate_left; (fail_if_success (exact absurd (by clear hq; first | assumption | omega) hq)); rotate_left) | (apply cB))
          all_goals refine ih (k + 1) _ _ ⟨hs.sel [3] (by decide), hlt, fun j2 hj2 => ?_⟩ (by omega) zss
          all_goals
            by_cases e : j2 = k
            · rw [e, hst]; rfl
            · exact hall j2 (by omega)
    | false =>
      cases ib with
      | false =>
        rw [dS (k := k) (by omega) (by rw [hst]; rfl)]
        repeat' (first | ((apply ax_c; apply bY 172; exact rfl; exact rfl; exact gb; (intro W X hN hs; exact aA lL rfl (dM _ q s (hqo (by assumption)) hso)); (rintro _ _ _ _ ⟨rfl, hE⟩; first | exact hE | exact Fresh.ext hf); rintro W X _ _ hN hs ⟨rfl, hE⟩; rw [← hcc]; have hs := hs.ext hE; (try simp only [zcc] at hs); refine JX.at hs ?_)) | ((apply ax_c; apply bY 105; exact rfl; exact rfl; exact gb; (intro W X hN hs; exact aA eO rfl (is_r _ (some ⟨p, o, none⟩) a2 n c n2 c2 N s.2 (h.st hs) hso.2)); (rintro _ _ _ _ ⟨rfl, hE⟩; first | exact hE | exact Fresh.ext hf); rintro W X _ _ hN hs ⟨rfl, hE⟩; rw [his]; have hs := hs.ext hE; (try simp only [zcc] at hs); refine JX.at hs ?_)) | (apply aH) | ((first | (apply aC) | (apply JX_f; exact rfl; intro W X hs) | (apply dB; exact rfl; exact rfl; exact gb; intro W X hs)); (first | (apply aT; first | exact aO (i := ((k : Int) - 1).toNat) (hrow.st hs) (hprev (by assumption)) rfl rfl aI | exact aO (i := k) (hrow.st hs) hv rfl rfl aI) | exact zop); first | (exact rfl; exact rfl) | exact rfl) | (apply aQ) | (apply aB) | (apply aN) | (apply bG; refine bP rfl ?_) | (apply aV) | (apply aF (t := 12); refine JL_o (by apply aR; exact aJ hs) rfl rfl ?_; rintro _ _ ⟨b12, rfl, hb12, hs, hE⟩) | (apply aU; refine JL_u (by apply aP; exact aK hs rfl rfl rfl) rfl ?_; rintro _ _ ⟨hs, hF⟩) | (apply aG; first | refine aS rfl ob ?_ | refine bB rfl gb ?_) | (apply bV; (refine bQ (id := 6) [0, 1, 3, 7, 7, 23, 63, 127, 7, 511, 1023, 2047, 4095, 8191, 8191, 24575, 65535, 131071, 262143, 524287, 1048575, 1048575, 3145727, 8388607, 1048575, 33554431, 67108863] [(0, 0), (1, 0), (2, 0), (3, 0), (4, 0), (5, 0), (6, 0), (7, 0), (8, 0), (9, 1), (10, 0), (11, 0), (12, 0), (13, 0), (14, 0), (15, 0), (16, 1), (17, 0), (18, 0), (19, 0), (20, 0), (21, 0), (22, 0), (24, 0), (23, 1), (25, 0), (26, 0)] [] hs cQ (by kernel_rfl) (by kernel_rfl) (by kernel_rfl) (by kernel_rfl) (by kernel_rfl) ?_)) | (refine bU (fun W hs => ?_)) | (refine cM rfl rfl gb rfl ?_) | (refine cU rfl rfl gb rfl ?_) | (refine cE rfl rfl (fun hq => ?_) (fun hq => ?_); (fail_if_success (exact absurd (by clear hq; first | assumption | omega) (not_not_intro hq))); rotate_left; (fail_if_success (exact absurd (by clear hq; first | assumption | omega) hq)); rotate_left) | (apply cB))
        all_goals refine aM Tryz.func120 rfl (.tmp rfl .nil) ⟨rfl, hs.frm.ext⟩
      | true =>
        obtain ⟨j, yj, hj, hyj, hyu⟩ := isM_true.1 his
        have hjl := (List.getElem?_eq_some_iff.1 hyj).1
        obtain ⟨rj, hrj0, f1, f2, f3, f4⟩ := hm.get hyj
        have mj1 : Sl dId All w rj.2.1.1 rj.2.1.2.1 rj.2.1.2.2 yj.2.1 := f2
        have mj2 : Sl dStp All w rj.2.2.1.1 rj.2.2.1.2.1 rj.2.2.1.2.2 yj.2.2.1 := f3
        have mj3 : Sl dStp All w rj.2.2.2.1 rj.2.2.2.2.1 rj.2.2.2.2.2 yj.2.2.2 := f4
        have hrj : rs[(s.2 - 1).toNat]? = some rj := by rw [hj, show ((j : Int) + 1 - 1).toNat = j by omega]; exact hrj0
        have hsj : 1 ≤ s.2 ∧ s.2 ≤ n := by omega
        have hnj : cZ N s.2 = yj := by rw [hj]; exact cO hyj
        rw [hnj] at hst
        cases hb with
        | false =>
          rw [dS (k := k) (by omega) (by rw [hst]; rfl)]
          repeat' (first | ((apply ax_c; apply bY 172; exact rfl; exact rfl; exact gb; (intro W X hN hs; exact aA lL rfl (dM _ q s (hqo (by assumption)) hso)); (rintro _ _ _ _ ⟨rfl, hE⟩; first | exact hE | exact Fresh.ext hf); rintro W X _ _ hN hs ⟨rfl, hE⟩; rw [← hcc]; have hs := hs.ext hE; (try simp only [zcc] at hs); refine JX.at hs ?_)) | ((apply ax_c; apply bY 105; exact rfl; exact rfl; exact gb; (intro W X hN hs; exact aA eO rfl (is_r _ (some ⟨p, o, none⟩) a2 n c n2 c2 N s.2 (h.st hs) hso.2)); (rintro _ _ _ _ ⟨rfl, hE⟩; first | exact hE | exact Fresh.ext hf); rintro W X _ _ hN hs ⟨rfl, hE⟩; rw [his]; have hs := hs.ext hE; (try simp only [zcc] at hs); refine JX.at hs ?_)) | ((apply ax_c; apply bY 47; exact rfl; exact rfl; exact gb; (intro W X hN hs; exact aA en47 rfl (qF _ r0.2.1.1 r0.2.1.2.1 r0.2.1.2.2 T s.1 (mT.st hs))); (rintro _ _ _ _ ⟨rfl, hE⟩; first | exact hE | exact Fresh.ext hf); rintro W X _ _ hN hs ⟨rfl, hE⟩; rw [hhas]; have hs := hs.ext hE; (try simp only [zcc] at hs); refine JX.at hs ?_)) | (apply aH) | ((first | (apply aC) | (apply JX_f; exact rfl; intro W X hs) | (apply dB; exact rfl; exact rfl; exact gb; intro W X hs)); (first | (apply aT; first | exact aO (i := ((k : Int) - 1).toNat) (hrow.st hs) (hprev (by assumption)) rfl rfl aI | exact aO (i := k) (hrow.st hs) hv rfl rfl aI) | exact zop); first | (exact rfl; exact rfl) | exact rfl) | (apply aQ) | (apply aB) | (apply aN) | (apply bG; refine bP rfl ?_) | (apply aV) | (apply aF (t := 12); refine JL_o (by apply aR; exact aJ hs) rfl rfl ?_; rintro _ _ ⟨b12, rfl, hb12, hs, hE⟩) | (apply aU; refine JL_u (by apply aP; exact aK hs rfl rfl rfl) rfl ?_; rintro _ _ ⟨hs, hF⟩) | (apply aG; first | refine aS rfl ob ?_ | refine bB rfl gb ?_) | (apply bV; (refine bQ (id := 6) [0, 1, 3, 7, 7, 23, 63, 127, 7, 511, 1023, 2047, 4095, 8191, 8191, 24575, 65535, 131071, 262143, 524287, 1048575, 1048575, 3145727, 8388607, 1048575, 33554431, 67108863] [(0, 0), (1, 0), (2, 0), (3, 0), (4, 0), (5, 0), (6, 0), (7, 0), (8, 0), (9, 1), (10, 0), (11, 0), (12, 0), (13, 0), (14, 0), (15, 0), (16, 1), (17, 0), (18, 0), (19, 0), (20, 0), (21, 0), (22, 0), (24, 0), (23, 1), (25, 0), (26, 0)] [] hs cQ (by kernel_rfl) (by kernel_rfl) (by kernel_rfl) (by kernel_rfl) (by kernel_rfl) ?_)) | (refine bU (fun W hs => ?_)) | (refine cM rfl rfl gb rfl ?_) | (refine cU rfl rfl gb rfl ?_) | (refine cE rfl rfl (fun hq => ?_) (fun hq => ?_); (fail_if_success (exact absurd (by clear hq; first | assumption | omega) (not_not_intro hq))); rotate_left; (fail_if_success (exact absurd (by clear hq; first | assumption | omega) hq)); rotate_left) | (apply cB))
          all_goals refine aM Tryz.func120 rfl (.tmp rfl .nil) ⟨rfl, hs.frm.ext⟩
        | true =>
          obtain ⟨z, hz⟩ : ∃ z, z = outC T s.1 := ⟨_, rfl⟩
          obtain ⟨ZL, hZL⟩ : ∃ z, z = outL T s.1 := ⟨_, rfl⟩
          have hzt : zS false T s.1 = z := by rw [hz]; rfl
          have hzl : zR false T s.1 = ZL := by rw [hZL]; rfl
          have hbk : sS yj false = yj.2.2.1 := rfl
          have hZo : ∀ x ∈ ZL, okId x := by rw [hZL]; unfold outL; split; exact (fun x hx => jW mT x (outT_mem.1 hx).1); exact (fun x hx => by cases hx)
          rw [hzt, hzl, hbk] at hst
          by_cases hz0 : z = 0
          rotate_left
          · rw [dS (k := k) (by omega) (by rw [hst, decide_eq_false hz0]; rfl)]
            repeat' (first | ((apply ax_c; apply bY 172; exact rfl; exact rfl; exact gb; (intro W X hN hs; exact aA lL rfl (dM _ q s (hqo (by assumption)) hso)); (rintro _ _ _ _ ⟨rfl, hE⟩; first | exact hE | exact Fresh.ext hf); rintro W X _ _ hN hs ⟨rfl, hE⟩; rw [← hcc]; have hs := hs.ext hE; (try simp only [zcc] at hs); refine JX.at hs ?_)) | ((apply ax_c; apply bY 105; exact rfl; exact rfl; exact gb; (intro W X hN hs; exact aA eO rfl (is_r _ (some ⟨p, o, none⟩) a2 n c n2 c2 N s.2 (h.st hs) hso.2)); (rintro _ _ _ _ ⟨rfl, hE⟩; first | exact hE | exact Fresh.ext hf); rintro W X _ _ hN hs ⟨rfl, hE⟩; rw [his]; have hs := hs.ext hE; (try simp only [zcc] at hs); refine JX.at hs ?_)) | ((apply ax_c; apply bY 47; exact rfl; exact rfl; exact gb; (intro W X hN hs; exact aA en47 rfl (qF _ r0.2.1.1 r0.2.1.2.1 r0.2.1.2.2 T s.1 (mT.st hs))); (rintro _ _ _ _ ⟨rfl, hE⟩; first | exact hE | exact Fresh.ext hf); rintro W X _ _ hN hs ⟨rfl, hE⟩; rw [hhas]; have hs := hs.ext hE; (try simp only [zcc] at hs); refine JX.at hs ?_)) | ((apply aL 101; refine JL_o (by exact aA vU rfl (gW _ r0.2.1.1 r0.2.1.2.1 r0.2.1.2.2 T s.1 (mT.st hs))) rfl rfl ?_; rintro _ _ ⟨aw, cw, rfl, hf⟩; rw [← hZL] at hf; rw [← hz, ← hZL]; have hs := hs.fresh hf; (try simp only [zcc] at hs))) | (apply aH) | ((first | (apply aC) | (apply JX_f; exact rfl; intro W X hs) | (apply dB; exact rfl; exact rfl; exact gb; intro W X hs)); (first | (apply aT; first | exact aO (i := ((k : Int) - 1).toNat) (hrow.st hs) (hprev (by assumption)) rfl rfl aI | exact aO (i := k) (hrow.st hs) hv rfl rfl aI | exact aO (i := (s.2 - 1).toNat) (hr.st hs) hrj rfl rfl aI) | exact zop); first | (exact rfl; exact rfl) | exact rfl) | (apply aQ) | (apply aB) | (apply aN) | (apply bG; refine bP rfl ?_) | (apply aV) | (apply aF (t := 12); refine JL_o (by apply aR; exact aJ hs) rfl rfl ?_; rintro _ _ ⟨b12, rfl, hb12, hs, hE⟩) | (apply aF (t := 13); refine JL_o (by apply aR; exact aJ hs) rfl rfl ?_; rintro _ _ ⟨b13, rfl, hb13, hs, hE⟩) | (apply aU; refine JL_u (by apply aP; exact aK hs rfl rfl rfl) rfl ?_; rintro _ _ ⟨hs, hF⟩) | (apply bK; (refine cY rfl gb rfl ?_)) | (apply aG; first | refine aS rfl ob ?_ | refine bB rfl gb ?_ | refine bD rfl gb ?_) | (apply bV; (refine bQ (id := 6) [0, 1, 3, 7, 7, 23, 63, 127, 7, 511, 1023, 2047, 4095, 8191, 8191, 24575, 65535, 131071, 262143, 524287, 1048575, 1048575, 3145727, 8388607, 1048575, 33554431, 67108863] [(0, 0), (1, 0), (2, 0), (3, 0), (4, 0), (5, 0), (6, 0), (7, 0), (8, 0), (9, 1), (10, 0), (11, 0), (12, 0), (13, 0), (14, 0), (15, 0), (16, 1), (17, 0), (18, 0), (19, 0), (20, 0), (21, 0), (22, 0), (24, 0), (23, 1), (25, 0), (26, 0)] [] hs cQ (by kernel_rfl) (by kernel_rfl) (by kernel_rfl) (by kernel_rfl) (by kernel_rfl) ?_)) | (refine bU (fun W hs => ?_)) | (refine cM rfl rfl gb rfl ?_) | (refine cU rfl rfl gb rfl ?_) | (refine cE rfl rfl (fun hq => ?_) (fun hq => ?_); (fail_if_success (exact absurd (by clear hq; first | assumption | omega) (not_not_intro hq))); rotate_left; (fail_if_success (exact absurd (by clear hq; first | assumption | omega) hq)); rotate_left) | (apply cB))
            all_goals refine aM Tryz.func120 rfl (.tmp rfl .nil) ⟨rfl, hs.frm.ext⟩
          rw [decide_eq_true hz0] at hst
          have hz1 : ¬ z ≠ 0 := fun e => e hz0
          by_cases hty : yj.2.1 = ZL
          rotate_left
          · have hte : decide (yj.2.1 = ZL) = false := decide_eq_false hty
            rw [dS (k := k) (by omega) (by rw [hst, hte]; rfl)]
            repeat' (first | ((apply ax_c; apply bY 172; exact rfl; exact rfl; exact gb; (intro W X hN hs; exact aA lL rfl (dM _ q s (hqo (by assumption)) hso)); (rintro _ _ _ _ ⟨rfl, hE⟩; first | exact hE | exact Fresh.ext hf); rintro W X _ _ hN hs ⟨rfl, hE⟩; rw [← hcc]; have hs := hs.ext hE; (try simp only [zcc] at hs); refine JX.at hs ?_)) | ((apply ax_c; apply bY 105; exact rfl; exact rfl; exact gb; (intro W X hN hs; exact aA eO rfl (is_r _ (some ⟨p, o, none⟩) a2 n c n2 c2 N s.2 (h.st hs) hso.2)); (rintro _ _ _ _ ⟨rfl, hE⟩; first | exact hE | exact Fresh.ext hf); rintro W X _ _ hN hs ⟨rfl, hE⟩; rw [his]; have hs := hs.ext hE; (try simp only [zcc] at hs); refine JX.at hs ?_)) | ((apply ax_c; apply bY 47; exact rfl; exact rfl; exact gb; (intro W X hN hs; exact aA en47 rfl (qF _ r0.2.1.1 r0.2.1.2.1 r0.2.1.2.2 T s.1 (mT.st hs))); (rintro _ _ _ _ ⟨rfl, hE⟩; first | exact hE | exact Fresh.ext hf); rintro W X _ _ hN hs ⟨rfl, hE⟩; rw [hhas]; have hs := hs.ext hE; (try simp only [zcc] at hs); refine JX.at hs ?_)) | ((apply aL 101; refine JL_o (by exact aA vU rfl (gW _ r0.2.1.1 r0.2.1.2.1 r0.2.1.2.2 T s.1 (mT.st hs))) rfl rfl ?_; rintro _ _ ⟨aw, cw, rfl, hf⟩; rw [← hZL] at hf; rw [← hz, ← hZL]; have hs := hs.fresh hf; (try simp only [zcc] at hs))) | ((apply bE 43; refine bM rfl gb (by exact aA en43 rfl (dY _ rj.2.1.1 aw rj.2.1.2.1 rj.2.1.2.2 ZL.length cw yj.2.1 ZL (mj1.st hs) (slU hs zmm hZo))) rfl rfl ?_; rintro _ _ ⟨rfl, hE⟩; rw [hte]; have hs := hs.ext hE; (try simp only [zcc] at hs))) | (apply aH) | ((first | (apply aC) | (apply bA; exact rfl; exact gb) | (apply JX_f; exact rfl; intro W X hs) | (apply dB; exact rfl; exact rfl; exact gb; intro W X hs)); (first | (apply aT; first | exact aO (i := ((k : Int) - 1).toNat) (hrow.st hs) (hprev (by assumption)) rfl rfl aI | exact aO (i := k) (hrow.st hs) hv rfl rfl aI | exact aO (i := (s.2 - 1).toNat) (hr.st hs) hrj rfl rfl aI) | exact zop); first | (exact rfl; exact rfl) | exact rfl) | (apply aQ) | (apply aB) | (apply aN) | (apply bG; refine bP rfl ?_) | (apply aV) | (apply aF (t := 12); refine JL_o (by apply aR; exact aJ hs) rfl rfl ?_; rintro _ _ ⟨b12, rfl, hb12, hs, hE⟩) | (apply aF (t := 13); refine JL_o (by apply aR; exact aJ hs) rfl rfl ?_; rintro _ _ ⟨b13, rfl, hb13, hs, hE⟩) | (apply aU; refine JL_u (by apply aP; exact aK hs rfl rfl rfl) rfl ?_; rintro _ _ ⟨hs, hF⟩) | (apply bK; (refine cY rfl gb rfl ?_)) | (apply aG; first | refine aS rfl ob ?_ | refine bB rfl gb ?_ | refine bD rfl gb ?_) | (apply bV; (refine bQ (id := 6) [0, 1, 3, 7, 7, 23, 63, 127, 7, 511, 1023, 2047, 4095, 8191, 8191, 24575, 65535, 131071, 262143, 524287, 1048575, 1048575, 3145727, 8388607, 1048575, 33554431, 67108863] [(0, 0), (1, 0), (2, 0), (3, 0), (4, 0), (5, 0), (6, 0), (7, 0), (8, 0), (9, 1), (10, 0), (11, 0), (12, 0), (13, 0), (14, 0), (15, 0), (16, 1), (17, 0), (18, 0), (19, 0), (20, 0), (21, 0), (22, 0), (24, 0), (23, 1), (25, 0), (26, 0)] [] hs cQ (by kernel_rfl) (by kernel_rfl) (by kernel_rfl) (by kernel_rfl) (by kernel_rfl) ?_)) | (refine bU (fun W hs => ?_)) | (refine cM rfl rfl gb rfl ?_) | (refine cU rfl rfl gb rfl ?_) | (refine cE rfl rfl (fun hq => ?_) (fun hq => ?_); (fail_if_success (exact absurd (by clear hq; first | assumption | omega) (not_not_intro hq))); rotate_left; (fail_if_success (exact absurd (by clear hq; first | assumption | omega) hq)); rotate_left) | (apply cB))
            all_goals refine aM Tryz.func120 rfl (.tmp rfl .nil) ⟨rfl, hs.frm.ext⟩
          have hte : decide (yj.2.1 = ZL) = true := decide_eq_true hty
          rw [hte] at hst
          by_cases hin : (s.1, (k0 : Int) + 1) ∈ yj.2.2.1
          rotate_left
          · have hke : decide ((s.1, (k0 : Int) + 1) ∈ yj.2.2.1) = false := decide_eq_false hin
            rw [dS (k := k) (by omega) (by rw [hst, hke]; rfl)]
            repeat' (first | ((apply ax_c; apply bY 172; exact rfl; exact rfl; exact gb; (intro W X hN hs; exact aA lL rfl (dM _ q s (hqo (by assumption)) hso)); (rintro _ _ _ _ ⟨rfl, hE⟩; first | exact hE | exact Fresh.ext hf); rintro W X _ _ hN hs ⟨rfl, hE⟩; rw [← hcc]; have hs := hs.ext hE; (try simp only [zcc] at hs); refine JX.at hs ?_)) | ((apply ax_c; apply bY 105; exact rfl; exact rfl; exact gb; (intro W X hN hs; exact aA eO rfl (is_r _ (some ⟨p, o, none⟩) a2 n c n2 c2 N s.2 (h.st hs) hso.2)); (rintro _ _ _ _ ⟨rfl, hE⟩; first | exact hE | exact Fresh.ext hf); rintro W X _ _ hN hs ⟨rfl, hE⟩; rw [his]; have hs := hs.ext hE; (try simp only [zcc] at hs); refine JX.at hs ?_)) | ((apply ax_c; apply bY 47; exact rfl; exact rfl; exact gb; (intro W X hN hs; exact aA en47 rfl (qF _ r0.2.1.1 r0.2.1.2.1 r0.2.1.2.2 T s.1 (mT.st hs))); (rintro _ _ _ _ ⟨rfl, hE⟩; first | exact hE | exact Fresh.ext hf); rintro W X _ _ hN hs ⟨rfl, hE⟩; rw [hhas]; have hs := hs.ext hE; (try simp only [zcc] at hs); refine JX.at hs ?_)) | ((apply aL 101; refine JL_o (by exact aA vU rfl (gW _ r0.2.1.1 r0.2.1.2.1 r0.2.1.2.2 T s.1 (mT.st hs))) rfl rfl ?_; rintro _ _ ⟨aw, cw, rfl, hf⟩; rw [← hZL] at hf; rw [← hz, ← hZL]; have hs := hs.fresh hf; (try simp only [zcc] at hs))) | ((apply bE 43; refine bM rfl gb (by exact aA en43 rfl (dY _ rj.2.1.1 aw rj.2.1.2.1 rj.2.1.2.2 ZL.length cw yj.2.1 ZL (mj1.st hs) (slU hs zmm hZo))) rfl rfl ?_; rintro _ _ ⟨rfl, hE⟩; rw [hte]; have hs := hs.ext hE; (try simp only [zcc] at hs))) | ((apply bE 184; refine bM rfl gb (by exact aA en184 rfl (sO _ rj.2.2.1.1 rj.2.2.1.2.1 rj.2.2.1.2.2 yj.2.2.1 (s.1, (k0 : Int) + 1) (mj2.st hs))) rfl rfl ?_; rintro _ _ ⟨rfl, hE⟩; rw [hke]; have hs := hs.ext hE; (try simp only [zcc] at hs))) | (apply aH) | ((first | (apply aC) | (apply bA; exact rfl; exact gb) | (apply JX_f; exact rfl; intro W X hs) | (apply dB; exact rfl; exact rfl; exact gb; intro W X hs)); (first | (apply aT; first | exact aO (i := ((k : Int) - 1).toNat) (hrow.st hs) (hprev (by assumption)) rfl rfl aI | exact aO (i := k) (hrow.st hs) hv rfl rfl aI | exact aO (i := (s.2 - 1).toNat) (hr.st hs) hrj rfl rfl aI) | exact zop); first | (exact rfl; exact rfl) | exact rfl) | (apply aQ) | (apply aB) | (apply aN) | (apply bG; refine bP rfl ?_) | (apply aV) | (apply aF (t := 12); refine JL_o (by apply aR; exact aJ hs) rfl rfl ?_; rintro _ _ ⟨b12, rfl, hb12, hs, hE⟩) | (apply aF (t := 13); refine JL_o (by apply aR; exact aJ hs) rfl rfl ?_; rintro _ _ ⟨b13, rfl, hb13, hs, hE⟩) | (apply aU; refine JL_u (by apply aP; exact aK hs rfl rfl rfl) rfl ?_; rintro _ _ ⟨hs, hF⟩) | (apply aG; first | refine aS rfl ob ?_ | refine bB rfl gb ?_ | refine bD rfl gb ?_) | (apply bV; (refine bQ (id := 6) [0, 1, 3, 7, 7, 23, 63, 127, 7, 511, 1023, 2047, 4095, 8191, 8191, 24575, 65535, 131071, 262143, 524287, 1048575, 1048575, 3145727, 8388607, 1048575, 33554431, 67108863] [(0, 0), (1, 0), (2, 0), (3, 0), (4, 0), (5, 0), (6, 0), (7, 0), (8, 0), (9, 1), (10, 0), (11, 0), (12, 0), (13, 0), (14, 0), (15, 0), (16, 1), (17, 0), (18, 0), (19, 0), (20, 0), (21, 0), (22, 0), (24, 0), (23, 1), (25, 0), (26, 0)] [] hs cQ (by kernel_rfl) (by kernel_rfl) (by kernel_rfl) (by kernel_rfl) (by kernel_rfl) ?_)) | (refine bU (fun W hs => ?_)) | (refine cM rfl rfl gb rfl ?_) | (refine cU rfl rfl gb rfl ?_) | (refine cE rfl rfl (fun hq => ?_) (fun hq => ?_); (fail_if_success (exact absurd (by clear hq; first | assumption | omega) (not_not_intro hq))); rotate_left; (fail_if_success (exact absurd (by clear hq; first | assumption | omega) hq)); rotate_left) | (apply cB))
            all_goals refine aM Tryz.func120 rfl (.tmp rfl .nil) ⟨rfl, hs.frm.ext⟩
          have hke : decide ((s.1, (k0 : Int) + 1) ∈ yj.2.2.1) = true := decide_eq_true hin
          rw [hke] at hst
          repeat' (first | ((apply ax_c; apply bY 172; exact rfl; exact rfl; exact gb; (intro W X hN hs; exact aA lL rfl (dM _ q s (hqo (by assumption)) hso)); (rintro _ _ _ _ ⟨rfl, hE⟩; first | exact hE | exact Fresh.ext hf); rintro W X _ _ hN hs ⟨rfl, hE⟩; rw [← hcc]; have hs := hs.ext hE; (try simp only [zcc] at hs); refine JX.at hs ?_)) | ((apply ax_c; apply bY 105; exact rfl; exact rfl; exact gb; (intro W X hN hs; exact aA eO rfl (is_r _ (some ⟨p, o, none⟩) a2 n c n2 c2 N s.2 (h.st hs) hso.2)); (rintro _ _ _ _ ⟨rfl, hE⟩; first | exact hE | exact Fresh.ext hf); rintro W X _ _ hN hs ⟨rfl, hE⟩; rw [his]; have hs := hs.ext hE; (try simp only [zcc] at hs); refine JX.at hs ?_)) | ((apply ax_c; apply bY 47; exact rfl; exact rfl; exact gb; (intro W X hN hs; exact aA en47 rfl (qF _ r0.2.1.1 r0.2.1.2.1 r0.2.1.2.2 T s.1 (mT.st hs))); (rintro _ _ _ _ ⟨rfl, hE⟩; first | exact hE | exact Fresh.ext hf); rintro W X _ _ hN hs ⟨rfl, hE⟩; rw [hhas]; have hs := hs.ext hE; (try simp only [zcc] at hs); refine JX.at hs ?_)) | ((apply aL 101; refine JL_o (by exact aA vU rfl (gW _ r0.2.1.1 r0.2.1.2.1 r0.2.1.2.2 T s.1 (mT.st hs))) rfl rfl ?_; rintro _ _ ⟨aw, cw, rfl, hf⟩; rw [← hZL] at hf; rw [← hz, ← hZL]; have hs := hs.fresh hf; (try simp only [zcc] at hs))) | ((apply bE 43; refine bM rfl gb (by exact aA en43 rfl (dY _ rj.2.1.1 aw rj.2.1.2.1 rj.2.1.2.2 ZL.length cw yj.2.1 ZL (mj1.st hs) (slU hs zmm hZo))) rfl rfl ?_; rintro _ _ ⟨rfl, hE⟩; rw [hte]; have hs := hs.ext hE; (try simp only [zcc] at hs))) | ((apply bE 184; refine bM rfl gb (by exact aA en184 rfl (sO _ rj.2.2.1.1 rj.2.2.1.2.1 rj.2.2.1.2.2 yj.2.2.1 (s.1, (k0 : Int) + 1) (mj2.st hs))) rfl rfl ?_; rintro _ _ ⟨rfl, hE⟩; rw [hke]; have hs := hs.ext hE; (try simp only [zcc] at hs))) | (apply aH) | ((first | (apply aC) | (apply bA; exact rfl; exact gb) | (apply JX_f; exact rfl; intro W X hs) | (apply dB; exact rfl; exact rfl; exact gb; intro W X hs)); (first | (apply aT; first | exact aO (i := ((k : Int) - 1).toNat) (hrow.st hs) (hprev (by assumption)) rfl rfl aI | exact aO (i := k) (hrow.st hs) hv rfl rfl aI | exact aO (i := (s.2 - 1).toNat) (hr.st hs) hrj rfl rfl aI) | exact zop); first | (exact rfl; exact rfl) | exact rfl) | (apply aQ) | (apply aB) | (apply aN) | (apply aW) | (apply aV) | (apply aF (t := 12); refine JL_o (by apply aR; exact aJ hs) rfl rfl ?_; rintro _ _ ⟨b12, rfl, hb12, hs, hE⟩) | (apply aF (t := 13); refine JL_o (by apply aR; exact aJ hs) rfl rfl ?_; rintro _ _ ⟨b13, rfl, hb13, hs, hE⟩) | (apply aU; refine JL_u (by apply aP; exact aK hs rfl rfl rfl) rfl ?_; rintro _ _ ⟨hs, hF⟩) | (apply aG; first | refine aS rfl ob ?_ | refine bD rfl gb ?_) | (apply bV; (refine bQ (id := 6) [0, 1, 3, 7, 7, 23, 63, 127, 7, 511, 1023, 2047, 4095, 8191, 8191, 24575, 65535, 131071, 262143, 524287, 1048575, 1048575, 3145727, 8388607, 1048575, 33554431, 67108863] [(0, 0), (1, 0), (2, 0), (3, 0), (4, 0), (5, 0), (6, 0), (7, 0), (8, 0), (9, 1), (10, 0), (11, 0), (12, 0), (13, 0), (14, 0), (15, 0), (16, 1), (17, 0), (18, 0), (19, 0), (20, 0), (21, 0), (22, 0), (24, 0), (23, 1), (25, 0), (26, 0)] [] hs cQ (by kernel_rfl) (by kernel_rfl) (by kernel_rfl) (by kernel_rfl) (by kernel_rfl) ?_)) | (refine bU (fun W hs => ?_)) | (refine cM rfl rfl gb rfl ?_) | (refine cU rfl rfl gb rfl ?_) | (refine cE rfl rfl (fun hq => ?_) (fun hq => ?_); (fail_if_success (exact absurd (by clear hq; first | assumption | omega) (not_not_intro hq))); rotate_left; (fail_if_success (exact absurd (by clear hq; first | assumption | omega) hq)); rotate_left) | (apply cB))
          all_goals refine ih (k + 1) _ _ ⟨hs.sel [3] (by decide), hlt, fun j2 hj2 => ?_⟩ (by omega) zss
          all_goals
            by_cases e : j2 = k
            · rw [e, hst]; rfl
            · exact hall j2 (by omega)
  · have hf : fY N ((k0 : Int) + 1) row plus = true := vF (fun j hj => hall j (by omega))
    rw [hf]
    repeat' (first | (apply aH) | ((apply aC); exact zop; first | (exact rfl; exact rfl) | exact rfl) | (apply aQ) | (apply aB) | (apply bG; refine bP rfl ?_) | (apply aG; refine aZ rfl ob ?_))
    refine aM Tryz.func120 rfl (.tmp rfl .nil) ⟨rfl, hs.frm.ext⟩
end Go.Eng
end
section
namespace Go.Eng
open Go.Proofs
set_option linter.unusedSimpArgs false
set_option linter.unusedVariables false
def oA (N : List NM) (E : List Ent) (i : Nat) : Bool :=
  if (N.getD i n0).1 then dF (N.getD i n0).2.1 && (decide (kC E (N.getD i n0).2.1 = ((i : Int) + 1, true)) && (fY N ((i : Int) + 1) (N.getD i n0).2.2.1 true && fY N ((i : Int) + 1) (N.getD i n0).2.2.2 false))
  else decide ((N.getD i n0).2.1.length + (N.getD i n0).2.2.1.length + (N.getD i n0).2.2.2.length = 0)
def dX (N : List NM) : Nat := (N.filter (fun x => x.1)).length
def tX (N : List NM) (E : List Ent) : Bool := decide (N.length ≠ 0) && (isM N N.length && (isM N 1 && (decide ((cZ N 1).2.1.length = 0) && cH E)))
def dP (N : List NM) (E : List Ent) : Bool := tX N E && ((List.range N.length).all (oA N E) && decide (dX N = (allF E).length))
def errG (N : List NM) (E : List Ent) : Int := if dP N E then 0 else 220
theorem nG {N : List NM} {E : List Ent} (h : dP N E = true) : errG N E = 0 := if_pos h
theorem iQ {N : List NM} {E : List Ent} (h : dP N E = false) : errG N E = 220 := if_neg (by rw [h]; decide)
theorem kR {N : List NM} {E : List Ent} (h : tX N E = false) : errG N E = 220 := iQ (by unfold dP; rw [h]; rfl)
theorem jE {N : List NM} {E : List Ent} {k : Nat} (hk : k < N.length) (h : oA N E k = false) : errG N E = 220 := iQ (by
  unfold dP
  rw [show (List.range N.length).all (oA N E) = false from List.all_eq_false.2 ⟨k, List.mem_range.2 hk, by rw [h]; decide⟩]
  simp)
abbrev szN (N : List NM) : Prop := ∀ x ∈ N, x.2.1.length ≤ 1000000 ∧ x.2.2.1.length ≤ 1000000 ∧ x.2.2.2.length ≤ 1000000
attribute [local irreducible] Hold J JL JD JX JXat OpR OpG Ret RetV Is Blk Row
set_option maxRecDepth 100000
set_option maxHeartbeats 2000000
theorem dQ (w : World) (a a2 : Option Addr) (n c n2 c2 : Nat) (N : List NM) (E : List Ent) (h : Sl eD All w a n c N) (hE0 : Sl dEnt All w a2 n2 c2 E) (hn2 : n2 ≤ 1048576) (hz : szN N) :
    Ret Tryz.prog 46 #[.agg #[.slice a n c, .slice a2 n2 c2]] w fun v w' => v = .int .i64 (errG N E) ∧ Ext w w' := by
  refine bI (l := [_]) Tryz.func46 rfl Tryz.ntmps46 (by simp) ?_
  have hs := St.init w
  have hl := h.len
  have hNo := qL h
  obtain ⟨rs, hr, hm⟩ := Sl.raw (D := gD) h
  have hmx : n ≤ 9223372036854775807 := by have h3 := h.le; have h4 := h.cap; unfold maxLen at h4; omega
  have hni : inK .i64 (n : Int) := by unfold inK; simp only [IntKind.min, IntKind.max, IntKind.bits, IntKind.signed]; omega
  have h1i : inK .i64 (1 : Int) := by unfold inK; simp only [IntKind.min, IntKind.max, IntKind.bits, IntKind.signed]; omega
  obtain ⟨ib, his⟩ : ∃ ib, isM N n = ib := ⟨_, rfl⟩
  obtain ⟨i1, his1⟩ : ∃ ib, isM N 1 = ib := ⟨_, rfl⟩
  have hhd : tX N E = (decide (n ≠ 0) && (ib && (i1 && (decide ((cZ N 1).2.1.length = 0) && cH E)))) := by unfold tX; rw [hl, his, his1]
  by_cases hn0 : n = 0
  · have hn0' : (n : Int) = 0 := by omega
    rw [kR (by rw [hhd, decide_eq_false (by omega)]; rfl)]
    repeat' (first | (apply aH) | ((apply aC); exact zop; first | (exact rfl; exact rfl) | exact rfl) | (apply aQ) | (apply aB) | (apply aF (t := 1); refine JL_o (by apply bN; exact bC hs rfl) rfl rfl ?_; rintro _ _ ⟨b1, rfl, hb1, hs, hE⟩) | (apply bK; (refine cY rfl gb rfl ?_)) | (apply aG; refine bB rfl gb ?_))
    refine aM Tryz.func46 rfl (.tmp rfl .nil) ⟨rfl, hs.frm.ext⟩
  have hn0' : ¬ (n : Int) = 0 := by omega
  rw [decide_eq_true hn0, Bool.true_and] at hhd
  obtain ⟨p, o, rfl⟩ := hr.sl.addr (by omega)
  cases ib with
  | false =>
    rw [kR (by rw [hhd]; rfl)]
    repeat' (first | ((apply bE 105; refine bM rfl gb (by exact aA eO rfl (is_r _ (some ⟨p, o, none⟩) a2 n c n2 c2 N n (h.st hs) hni)) rfl rfl ?_; rintro _ _ ⟨rfl, hE⟩; rw [his]; have hs := hs.ext hE; (try simp only [zcc] at hs))) | (apply aH) | ((first | (apply aC) | (apply bA; exact rfl; exact gb)); exact zop; first | (exact rfl; exact rfl) | exact rfl) | (apply aQ) | (apply aB) | (apply aF (t := 1); refine JL_o (by apply bN; exact bC hs rfl) rfl rfl ?_; rintro _ _ ⟨b1, rfl, hb1, hs, hE⟩) | (apply bK; (refine cY rfl gb rfl ?_)) | (apply aG; refine bB rfl gb ?_))
    refine aM Tryz.func46 rfl (.tmp rfl .nil) ⟨rfl, hs.frm.ext⟩
  | true =>
  cases i1 with
  | false =>
    rw [kR (by rw [hhd]; rfl)]
    repeat' (first | ((apply bE 105; refine bM rfl gb (by exact aA eO rfl (is_r _ (some ⟨p, o, none⟩) a2 n c n2 c2 N n (h.st hs) hni)) rfl rfl ?_; rintro _ _ ⟨rfl, hE⟩; rw [his]; have hs := hs.ext hE; (try simp only [zcc] at hs))) | ((apply bE 105; refine bM rfl gb (by exact aA eO rfl (is_r _ (some ⟨p, o, none⟩) a2 n c n2 c2 N 1 (h.st hs) h1i)) rfl rfl ?_; rintro _ _ ⟨rfl, hE⟩; rw [his1]; have hs := hs.ext hE; (try simp only [zcc] at hs))) | (apply aH) | ((first | (apply aC) | (apply bA; exact rfl; exact gb)); exact zop; first | (exact rfl; exact rfl) | exact rfl) | (apply aQ) | (apply aB) | (apply aF (t := 1); refine JL_o (by apply bN; exact bC hs rfl) rfl rfl ?_; rintro _ _ ⟨b1, rfl, hb1, hs, hE⟩) | (apply bK; (refine cY rfl gb rfl ?_)) | (apply aG; refine bB rfl gb ?_))
    refine aM Tryz.func46 rfl (.tmp rfl .nil) ⟨rfl, hs.frm.ext⟩
  | true =>
  have hx0 : N[0]? = some (N[0]'(by omega)) := List.getElem?_eq_getElem (by omega)
  obtain ⟨x0, hxd0⟩ : ∃ x, x = N[0]'(by omega) := ⟨_, rfl⟩
  rw [← hxd0] at hx0
  obtain ⟨r0, hr0, g1, g2, g3, g4⟩ := hm.get hx0
  have m01 : Sl dId All w r0.2.1.1 r0.2.1.2.1 r0.2.1.2.2 x0.2.1 := g2
  have hn1 : cZ N 1 = x0 := cO (k := 0) hx0
  have hln0 := m01.len
  rw [hn1] at hhd
  by_cases ht0 : x0.2.1.length = 0
  rotate_left
  · rw [kR (by rw [hhd, decide_eq_false ht0]; rfl)]
    have ht0' : (r0.2.1.2.1 : Int) > 0 := by omega
    repeat' (first | ((apply bE 105; refine bM rfl gb (by exact aA eO rfl (is_r _ (some ⟨p, o, none⟩) a2 n c n2 c2 N n (h.st hs) hni)) rfl rfl ?_; rintro _ _ ⟨rfl, hE⟩; rw [his]; have hs := hs.ext hE; (try simp only [zcc] at hs))) | ((apply bE 105; refine bM rfl gb (by exact aA eO rfl (is_r _ (some ⟨p, o, none⟩) a2 n c n2 c2 N 1 (h.st hs) h1i)) rfl rfl ?_; rintro _ _ ⟨rfl, hE⟩; rw [his1]; have hs := hs.ext hE; (try simp only [zcc] at hs))) | (apply aH) | ((first | (apply aC) | (apply bA; exact rfl; exact gb)); (first | (apply aT; exact aX (i := 0) (j := 1) (hr.st hs) hr0 rfl rfl rfl aI) | exact zop); first | (exact rfl; exact rfl) | exact rfl) | (apply aQ) | (apply aB) | (apply aF (t := 1); refine JL_o (by apply bN; exact bC hs rfl) rfl rfl ?_; rintro _ _ ⟨b1, rfl, hb1, hs, hE⟩) | (apply bK; (refine cY rfl gb rfl ?_)) | (apply aG; refine bB rfl gb ?_))
    refine aM Tryz.func46 rfl (.tmp rfl .nil) ⟨rfl, hs.frm.ext⟩
  have ht0' : ¬ (r0.2.1.2.1 : Int) > 0 := by omega
  rw [decide_eq_true ht0] at hhd
  cases hce : cH E with
  | false =>
    rw [kR (by rw [hhd, hce]; rfl)]
    repeat' (first | ((apply bE 105; refine bM rfl gb (by exact aA eO rfl (is_r _ (some ⟨p, o, none⟩) a2 n c n2 c2 N n (h.st hs) hni)) rfl rfl ?_; rintro _ _ ⟨rfl, hE⟩; rw [his]; have hs := hs.ext hE; (try simp only [zcc] at hs))) | ((apply bE 105; refine bM rfl gb (by exact aA eO rfl (is_r _ (some ⟨p, o, none⟩) a2 n c n2 c2 N 1 (h.st hs) h1i)) rfl rfl ?_; rintro _ _ ⟨rfl, hE⟩; rw [his1]; have hs := hs.ext hE; (try simp only [zcc] at hs))) | ((apply bE 118; refine bM rfl gb (by exact aA lM rfl (eJ _ a2 n2 c2 E (hE0.st hs) hn2)) rfl rfl ?_; rintro _ _ ⟨rfl, hE⟩; rw [hce]; have hs := hs.ext hE; (try simp only [zcc] at hs))) | (apply aH) | ((first | (apply aC) | (apply bA; exact rfl; exact gb)); (first | (apply aT; exact aX (i := 0) (j := 1) (hr.st hs) hr0 rfl rfl rfl aI) | exact zop); first | (exact rfl; exact rfl) | exact rfl) | (apply aQ) | (apply aB) | (apply aF (t := 1); refine JL_o (by apply bN; exact bC hs rfl) rfl rfl ?_; rintro _ _ ⟨b1, rfl, hb1, hs, hE⟩) | (apply aG; refine bB rfl gb ?_))
    refine aM Tryz.func46 rfl (.tmp rfl .nil) ⟨rfl, hs.frm.ext⟩
  | true =>
  rw [hce] at hhd
  have hhd : tX N E = true := hhd
  repeat' (first | ((apply bE 105; refine bM rfl gb (by exact aA eO rfl (is_r _ (some ⟨p, o, none⟩) a2 n c n2 c2 N n (h.st hs) hni)) rfl rfl ?_; rintro _ _ ⟨rfl, hE⟩; rw [his]; have hs := hs.ext hE; (try simp only [zcc] at hs))) | ((apply bE 105; refine bM rfl gb (by exact aA eO rfl (is_r _ (some ⟨p, o, none⟩) a2 n c n2 c2 N 1 (h.st hs) h1i)) rfl rfl ?_; rintro _ _ ⟨rfl, hE⟩; rw [his1]; have hs := hs.ext hE; (try simp only [zcc] at hs))) | ((apply bE 118; refine bM rfl gb (by exact aA lM rfl (eJ _ a2 n2 c2 E (hE0.st hs) hn2)) rfl rfl ?_; rintro _ _ ⟨rfl, hE⟩; rw [hce]; have hs := hs.ext hE; (try simp only [zcc] at hs))) | (apply aH) | ((first | (apply aC) | (apply bA; exact rfl; exact gb)); (first | (apply aT; exact aX (i := 0) (j := 1) (hr.st hs) hr0 rfl rfl rfl aI) | exact zop); first | (exact rfl; exact rfl) | exact rfl) | (apply aQ) | (apply aB) | (apply aN) | (apply aV) | (apply aF (t := 1); refine JL_o (by apply bN; exact bC hs rfl) rfl rfl ?_; rintro _ _ ⟨b1, rfl, hb1, hs, hE⟩) | (apply aG; refine bD rfl gb ?_))
  refine bT (α := Nat) [(1, _), (41, _), (42, _)] (fun k => [(4, .int .i64 (dX (N.take k))), (43, .int .i64 k)]) (fun k w' => St w NoF w' [Blk b1 (.cells #[.slice (some ⟨p, o, none⟩) n c, .slice a2 n2 c2] 57 (0, 0))] ∧ k ≤ n ∧ ∀ j, j < k → oA N E j = true) (fun k => n - k) 0 ⟨hs, Nat.zero_le _, fun j hj => absurd hj (Nat.not_lt_zero _)⟩ zss ?_
  rintro k w2 ⟨hs1, hk, hall⟩ ih
  have hs : St w NoF w2 [_] := hs1
  by_cases hlt : k < n
  · have hv : N[k]? = some (N[k]'(by omega)) := List.getElem?_eq_getElem (by omega)
    obtain ⟨x, hxd⟩ : ∃ x, x = N[k]'(by omega) := ⟨_, rfl⟩
    rw [← hxd] at hv
    have hxm := List.mem_of_getElem? hv
    obtain ⟨z1, z2, z3⟩ := hz x hxm
    obtain ⟨r, hrx, e1, e2, e3, e4⟩ := hm.get hv
    have e1 : r.1 = x.1 := e1
    have m1 : Sl dId All w r.2.1.1 r.2.1.2.1 r.2.1.2.2 x.2.1 := e2
    have m2 : Sl dStp All w r.2.2.1.1 r.2.2.1.2.1 r.2.2.1.2.2 x.2.2.1 := e3
    have m3 : Sl dStp All w r.2.2.2.1 r.2.2.2.2.1 r.2.2.2.2.2 x.2.2.2 := e4
    have l1 := m1.len
    have l2 := m2.len
    have l3 := m3.len
    have hnb : oA N E k = if x.1 then dF x.2.1 && (decide (kC E x.2.1 = ((k : Int) + 1, true)) && (fY N ((k : Int) + 1) x.2.2.1 true && fY N ((k : Int) + 1) x.2.2.2 false)) else decide (x.2.1.length + x.2.2.1.length + x.2.2.2.length = 0) := by unfold oA; rw [cK hv]
    have hmu : dX (N.take (k + 1)) = dX (N.take k) + if x.1 then 1 else 0 := by
      unfold dX
      rw [dU _ hv, List.length_append]
      cases x.1 <;> rfl
    have hmul : dX (N.take k) ≤ k := by unfold dX; exact Nat.le_trans (List.length_filter_le _ _) (by rw [List.length_take]; omega)
    rw [← e1] at hnb hmu
    obtain ⟨xb, hxb⟩ : ∃ b, r.1 = b := ⟨_, rfl⟩
    rw [hxb] at hnb hmu
    cases xb with
    | false =>
      have hxn : (!r.1) = true := by rw [hxb]; rfl
      rw [if_neg (by decide)] at hnb hmu
      by_cases hs0 : x.2.1.length + x.2.2.1.length + x.2.2.2.length = 0
      · have hs0' : ¬ (r.2.1.2.1 : Int) + r.2.2.1.2.1 + r.2.2.2.2.1 > 0 := by omega
        repeat' (first | (apply aH) | ((apply aC); (first | (apply aT; exact aO (i := k) (hr.st hs) hrx rfl rfl aI) | exact zop); first | (exact rfl; exact rfl) | exact rfl) | (apply aQ) | (apply aB) | (apply aN) | (apply bG; refine bP rfl ?_) | (apply aV) | (apply aF (t := 6); refine JL_o (by apply aR; exact aJ hs) rfl rfl ?_; rintro _ _ ⟨b6, rfl, hb6, hs, hE⟩) | (apply aU; refine JL_u (by apply aP; exact aK hs rfl rfl rfl) rfl ?_; rintro _ _ ⟨hs, hF⟩) | (apply aG; first | refine aS rfl ob ?_ | refine aZ rfl ob ?_ | refine bB rfl gb ?_))
        refine ih (k + 1) _ _ ⟨hs.sel [1] (by decide), hlt, fun j hj => ?_⟩ (by omega) (by rw [hmu]; repeat' (first | exact trivial | exact rfl | apply And.intro))
        by_cases e : j = k
        · rw [e, hnb, decide_eq_true hs0]
        · exact hall j (by omega)
      · have hs0' : (r.2.1.2.1 : Int) + r.2.2.1.2.1 + r.2.2.2.2.1 > 0 := by omega
        rw [jE (by omega) (hnb.trans (decide_eq_false hs0))]
        repeat' (first | (apply aH) | ((apply aC); (first | (apply aT; exact aO (i := k) (hr.st hs) hrx rfl rfl aI) | exact zop); first | (exact rfl; exact rfl) | exact rfl) | (apply aQ) | (apply aB) | (apply aN) | (apply aV) | (apply aF (t := 6); refine JL_o (by apply aR; exact aJ hs) rfl rfl ?_; rintro _ _ ⟨b6, rfl, hb6, hs, hE⟩) | (apply aU; refine JL_u (by apply aP; exact aK hs rfl rfl rfl) rfl ?_; rintro _ _ ⟨hs, hF⟩) | (apply aG; first | refine aS rfl ob ?_ | refine bB rfl gb ?_))
        refine aM Tryz.func46 rfl (.tmp rfl .nil) ⟨rfl, hs.frm.ext⟩
    | true =>
      have hxn : (!r.1) = false := by rw [hxb]; rfl
      rw [if_pos rfl] at hnb hmu
      obtain ⟨f1, f2, hf⟩ : ∃ f1 f2, kC E x.2.1 = (f1, f2) := ⟨_, _, rfl⟩
      obtain ⟨tb, htb⟩ : ∃ b, dF x.2.1 = b := ⟨_, rfl⟩
      obtain ⟨sp, hsp⟩ : ∃ b, fY N ((k : Int) + 1) x.2.2.1 true = b := ⟨_, rfl⟩
      obtain ⟨sl, hsl⟩ : ∃ b, fY N ((k : Int) + 1) x.2.2.2 false = b := ⟨_, rfl⟩
      rw [hf, htb, hsp, hsl] at hnb
      cases tb with
      | false =>
        rw [jE (k := k) (by omega) (by rw [hnb]; rfl)]
        repeat' (first | ((apply aL 119; refine JL_o (by exact aA uF rfl (nU _ a2 n2 c2 E r.2.1.1 r.2.1.2.1 r.2.1.2.2 x.2.1 (hE0.st hs) hn2 (m1.st hs))) rfl rfl ?_; rintro _ _ ⟨rfl, hE⟩; rw [hf]; have hs := hs.ext hE; (try simp only [zcc] at hs))) | ((apply aL 59; refine JL_o (by exact aA en59 rfl (dC _ r.2.1.1 r.2.1.2.1 r.2.1.2.2 x.2.1 (m1.st hs))) rfl rfl ?_; rintro _ _ ⟨rfl, hE⟩; rw [htb]; have hs := hs.ext hE; (try simp only [zcc] at hs))) | (apply aH) | ((apply aC); (first | (apply aT; exact aO (i := k) (hr.st hs) hrx rfl rfl aI) | exact zop); first | (exact rfl; exact rfl) | exact rfl) | (apply aQ) | (apply aB) | (apply aN) | (apply aV) | (apply aF (t := 6); refine JL_o (by apply aR; exact aJ hs) rfl rfl ?_; rintro _ _ ⟨b6, rfl, hb6, hs, hE⟩) | (apply aU; refine JL_u (by apply aP; exact aK hs rfl rfl rfl) rfl ?_; rintro _ _ ⟨hs, hF⟩) | (apply bK; (refine cY rfl gb rfl ?_)) | (apply aG; first | refine aS rfl ob ?_ | refine bB rfl gb ?_ | refine bD rfl gb ?_))
        refine aM Tryz.func46 rfl (.tmp rfl .nil) ⟨rfl, hs.frm.ext⟩
      | true =>
      cases f2 with
      | false =>
        rw [jE (k := k) (by omega) (by rw [hnb]; rw [decide_eq_false (fun e => by cases e)]; rfl)]
        repeat' (first | ((apply aL 119; refine JL_o (by exact aA uF rfl (nU _ a2 n2 c2 E r.2.1.1 r.2.1.2.1 r.2.1.2.2 x.2.1 (hE0.st hs) hn2 (m1.st hs))) rfl rfl ?_; rintro _ _ ⟨rfl, hE⟩; rw [hf]; have hs := hs.ext hE; (try simp only [zcc] at hs))) | ((apply aL 59; refine JL_o (by exact aA en59 rfl (dC _ r.2.1.1 r.2.1.2.1 r.2.1.2.2 x.2.1 (m1.st hs))) rfl rfl ?_; rintro _ _ ⟨rfl, hE⟩; rw [htb]; have hs := hs.ext hE; (try simp only [zcc] at hs))) | (apply aH) | ((first | (apply aC) | (apply bA; exact rfl; exact gb)); (first | (apply aT; exact aO (i := k) (hr.st hs) hrx rfl rfl aI) | exact zop); first | (exact rfl; exact rfl) | exact rfl) | (apply aQ) | (apply aB) | (apply aN) | (apply aV) | (apply aF (t := 6); refine JL_o (by apply aR; exact aJ hs) rfl rfl ?_; rintro _ _ ⟨b6, rfl, hb6, hs, hE⟩) | (apply aU; refine JL_u (by apply aP; exact aK hs rfl rfl rfl) rfl ?_; rintro _ _ ⟨hs, hF⟩) | (apply bK; (refine cY rfl gb rfl ?_)) | (apply aG; first | refine aS rfl ob ?_ | refine bB rfl gb ?_ | refine bD rfl gb ?_))
        refine aM Tryz.func46 rfl (.tmp rfl .nil) ⟨rfl, hs.frm.ext⟩
      | true =>
      by_cases hf1 : f1 = (k : Int) + 1
      rotate_left
      · have hf1' : f1 ≠ (k : Int) + 1 := hf1
        rw [jE (k := k) (by omega) (by rw [hnb]; rw [decide_eq_false (fun e => hf1 (congrArg Prod.fst e))]; rfl)]
        repeat' (first | ((apply aL 119; refine JL_o (by exact aA uF rfl (nU _ a2 n2 c2 E r.2.1.1 r.2.1.2.1 r.2.1.2.2 x.2.1 (hE0.st hs) hn2 (m1.st hs))) rfl rfl ?_; rintro _ _ ⟨rfl, hE⟩; rw [hf]; have hs := hs.ext hE; (try simp only [zcc] at hs))) | ((apply aL 59; refine JL_o (by exact aA en59 rfl (dC _ r.2.1.1 r.2.1.2.1 r.2.1.2.2 x.2.1 (m1.st hs))) rfl rfl ?_; rintro _ _ ⟨rfl, hE⟩; rw [htb]; have hs := hs.ext hE; (try simp only [zcc] at hs))) | (apply aH) | ((first | (apply aC) | (apply bA; exact rfl; exact gb)); (first | (apply aT; exact aO (i := k) (hr.st hs) hrx rfl rfl aI) | exact zop); first | (exact rfl; exact rfl) | exact rfl) | (apply aQ) | (apply aB) | (apply aN) | (apply aV) | (apply aF (t := 6); refine JL_o (by apply aR; exact aJ hs) rfl rfl ?_; rintro _ _ ⟨b6, rfl, hb6, hs, hE⟩) | (apply aU; refine JL_u (by apply aP; exact aK hs rfl rfl rfl) rfl ?_; rintro _ _ ⟨hs, hF⟩) | (apply bK; (refine cY rfl gb rfl ?_)) | (apply aG; first | refine aS rfl ob ?_ | refine bB rfl gb ?_ | refine bD rfl gb ?_))
        refine aM Tryz.func46 rfl (.tmp rfl .nil) ⟨rfl, hs.frm.ext⟩
      have hf1' : ¬ f1 ≠ (k : Int) + 1 := fun e => e hf1
      rw [hf1, decide_eq_true rfl] at hnb
      cases sp with
      | false =>
        rw [jE (k := k) (by omega) (by rw [hnb]; rfl)]
        repeat' (first | ((apply aL 119; refine JL_o (by exact aA uF rfl (nU _ a2 n2 c2 E r.2.1.1 r.2.1.2.1 r.2.1.2.2 x.2.1 (hE0.st hs) hn2 (m1.st hs))) rfl rfl ?_; rintro _ _ ⟨rfl, hE⟩; rw [hf]; have hs := hs.ext hE; (try simp only [zcc] at hs))) | ((apply aL 59; refine JL_o (by exact aA en59 rfl (dC _ r.2.1.1 r.2.1.2.1 r.2.1.2.2 x.2.1 (m1.st hs))) rfl rfl ?_; rintro _ _ ⟨rfl, hE⟩; rw [htb]; have hs := hs.ext hE; (try simp only [zcc] at hs))) | ((apply bE 120; refine bM rfl gb (by exact aA aBk rfl (mI _ (some ⟨p, o, none⟩) a2 r.2.2.1.1 n c n2 c2 r.2.2.1.2.1 r.2.2.1.2.2 N k x.2.2.1 true (h.st hs) hlt (m2.st hs))) rfl rfl ?_; rintro _ _ ⟨rfl, hE⟩; rw [hsp]; have hs := hs.ext hE; (try simp only [zcc] at hs))) | (apply aH) | ((first | (apply aC) | (apply bA; exact rfl; exact gb)); (first | (apply aT; exact aO (i := k) (hr.st hs) hrx rfl rfl aI) | exact zop); first | (exact rfl; exact rfl) | exact rfl) | (apply aQ) | (apply aB) | (apply aN) | (apply aV) | (apply aF (t := 6); refine JL_o (by apply aR; exact aJ hs) rfl rfl ?_; rintro _ _ ⟨b6, rfl, hb6, hs, hE⟩) | (apply aU; refine JL_u (by apply aP; exact aK hs rfl rfl rfl) rfl ?_; rintro _ _ ⟨hs, hF⟩) | (apply bK; (refine cY rfl gb rfl ?_)) | (apply aG; first | refine aS rfl ob ?_ | refine bB rfl gb ?_ | refine bD rfl gb ?_))
        refine aM Tryz.func46 rfl (.tmp rfl .nil) ⟨rfl, hs.frm.ext⟩
      | true =>
      cases sl with
      | false =>
        rw [jE (k := k) (by omega) (by rw [hnb]; rfl)]
        repeat' (first | ((apply aL 119; refine JL_o (by exact aA uF rfl (nU _ a2 n2 c2 E r.2.1.1 r.2.1.2.1 r.2.1.2.2 x.2.1 (hE0.st hs) hn2 (m1.st hs))) rfl rfl ?_; rintro _ _ ⟨rfl, hE⟩; rw [hf]; have hs := hs.ext hE; (try simp only [zcc] at hs))) | ((apply aL 59; refine JL_o (by exact aA en59 rfl (dC _ r.2.1.1 r.2.1.2.1 r.2.1.2.2 x.2.1 (m1.st hs))) rfl rfl ?_; rintro _ _ ⟨rfl, hE⟩; rw [htb]; have hs := hs.ext hE; (try simp only [zcc] at hs))) | ((apply bE 120; refine bM rfl gb (by exact aA aBk rfl (mI _ (some ⟨p, o, none⟩) a2 r.2.2.1.1 n c n2 c2 r.2.2.1.2.1 r.2.2.1.2.2 N k x.2.2.1 true (h.st hs) hlt (m2.st hs))) rfl rfl ?_; rintro _ _ ⟨rfl, hE⟩; rw [hsp]; have hs := hs.ext hE; (try simp only [zcc] at hs))) | ((apply bE 120; refine bM rfl gb (by exact aA aBk rfl (mI _ (some ⟨p, o, none⟩) a2 r.2.2.2.1 n c n2 c2 r.2.2.2.2.1 r.2.2.2.2.2 N k x.2.2.2 false (h.st hs) hlt (m3.st hs))) rfl rfl ?_; rintro _ _ ⟨rfl, hE⟩; rw [hsl]; have hs := hs.ext hE; (try simp only [zcc] at hs))) | (apply aH) | ((first | (apply aC) | (apply bA; exact rfl; exact gb)); (first | (apply aT; exact aO (i := k) (hr.st hs) hrx rfl rfl aI) | exact zop); first | (exact rfl; exact rfl) | exact rfl) | (apply aQ) | (apply aB) | (apply aN) | (apply aV) | (apply aF (t := 6); refine JL_o (by apply aR; exact aJ hs) rfl rfl ?_; rintro _ _ ⟨b6, rfl, hb6, hs, hE⟩) | (apply aU; refine JL_u (by apply aP; exact aK hs rfl rfl rfl) rfl ?_; rintro _ _ ⟨hs, hF⟩) | (apply aG; first | refine aS rfl ob ?_ | refine bB rfl gb ?_ | refine bD rfl gb ?_))
        refine aM Tryz.func46 rfl (.tmp rfl .nil) ⟨rfl, hs.frm.ext⟩
      | true =>
        repeat' (first | ((apply aL 119; refine JL_o (by exact aA uF rfl (nU _ a2 n2 c2 E r.2.1.1 r.2.1.2.1 r.2.1.2.2 x.2.1 (hE0.st hs) hn2 (m1.st hs))) rfl rfl ?_; rintro _ _ ⟨rfl, hE⟩; rw [hf]; have hs := hs.ext hE; (try simp only [zcc] at hs))) | ((apply aL 59; refine JL_o (by exact aA en59 rfl (dC _ r.2.1.1 r.2.1.2.1 r.2.1.2.2 x.2.1 (m1.st hs))) rfl rfl ?_; rintro _ _ ⟨rfl, hE⟩; rw [htb]; have hs := hs.ext hE; (try simp only [zcc] at hs))) | ((apply bE 120; refine bM rfl gb (by exact aA aBk rfl (mI _ (some ⟨p, o, none⟩) a2 r.2.2.1.1 n c n2 c2 r.2.2.1.2.1 r.2.2.1.2.2 N k x.2.2.1 true (h.st hs) hlt (m2.st hs))) rfl rfl ?_; rintro _ _ ⟨rfl, hE⟩; rw [hsp]; have hs := hs.ext hE; (try simp only [zcc] at hs))) | ((apply bE 120; refine bM rfl gb (by exact aA aBk rfl (mI _ (some ⟨p, o, none⟩) a2 r.2.2.2.1 n c n2 c2 r.2.2.2.2.1 r.2.2.2.2.2 N k x.2.2.2 false (h.st hs) hlt (m3.st hs))) rfl rfl ?_; rintro _ _ ⟨rfl, hE⟩; rw [hsl]; have hs := hs.ext hE; (try simp only [zcc] at hs))) | (apply aH) | ((first | (apply aC) | (apply bA; exact rfl; exact gb)); (first | (apply aT; exact aO (i := k) (hr.st hs) hrx rfl rfl aI) | exact zop); first | (exact rfl; exact rfl) | exact rfl) | (apply aQ) | (apply aB) | (apply aN) | (apply aW) | (apply aV) | (apply aF (t := 6); refine JL_o (by apply aR; exact aJ hs) rfl rfl ?_; rintro _ _ ⟨b6, rfl, hb6, hs, hE⟩) | (apply aU; refine JL_u (by apply aP; exact aK hs rfl rfl rfl) rfl ?_; rintro _ _ ⟨hs, hF⟩) | (apply aG; first | refine aS rfl ob ?_ | refine bD rfl gb ?_))
        refine ih (k + 1) _ _ ⟨hs.sel [1] (by decide), hlt, fun j hj => ?_⟩ (by omega) (by rw [hmu]; repeat' (first | exact trivial | exact rfl | apply And.intro))
        by_cases e : j = k
        · rw [e, hnb]; rfl
        · exact hall j (by omega)
  · have hkn : k = n := by omega
    subst hkn
    rw [List.take_of_length_le (by omega)] at *
    have hall2 : (List.range N.length).all (oA N E) = true := List.all_eq_true.2 fun j hj => hall j (by have := List.mem_range.1 hj; omega)
    by_cases hmm : dX N = (allF E).length
    · have hmm' : ¬ ((dX N : Nat) : Int) ≠ ((allF E).length : Nat) := fun e => e (by omega)
      rw [nG (by unfold dP; rw [hhd, hall2, decide_eq_true hmm]; rfl)]
      repeat' (first | ((apply aL 121; refine JL_o (by exact aA en121 rfl (many_r _ a2 n2 c2 E (hE0.st hs) hn2)) rfl rfl ?_; rintro _ _ ⟨rfl, hE⟩; have hs := hs.ext hE; (try simp only [zcc] at hs))) | (apply aH) | ((apply aC); exact zop; first | (exact rfl; exact rfl) | exact rfl) | (apply aQ) | (apply aB) | (apply bG; refine bP rfl ?_) | (apply aV) | (apply aG; refine aZ rfl ob ?_))
      refine aM Tryz.func46 rfl (.tmp rfl .nil) ⟨rfl, hs.frm.ext⟩
    · have hmm' : ((dX N : Nat) : Int) ≠ ((allF E).length : Nat) := fun e => hmm (by omega)
      rw [iQ (by unfold dP; rw [decide_eq_false hmm]; simp)]
      repeat' (first | ((apply aL 121; refine JL_o (by exact aA en121 rfl (many_r _ a2 n2 c2 E (hE0.st hs) hn2)) rfl rfl ?_; rintro _ _ ⟨rfl, hE⟩; have hs := hs.ext hE; (try simp only [zcc] at hs))) | (apply aH) | ((apply aC); exact zop; first | (exact rfl; exact rfl) | exact rfl) | (apply aQ) | (apply aB) | (apply bG; refine bP rfl ?_) | (apply aG; first | refine aS rfl ob ?_ | refine aZ rfl ob ?_))
      refine aM Tryz.func46 rfl (.tmp rfl .nil) ⟨rfl, hs.frm.ext⟩
end Go.Eng
end
section
namespace Go.Eng
open Go.Proofs
set_option linter.unusedSimpArgs false
set_option linter.unusedVariables false
theorem mZ (xs vs : List Value) (off i : Nat) (h : off + vs.length ≤ xs.length) : (bR xs off vs)[i]? = if i < off then xs[i]? else if i < off + vs.length then vs[i - off]? else xs[i]? := by
  unfold bR
  have e1 : (xs.take off).length = off := by rw [List.length_take]; omega
  by_cases c1 : i < off
  · rw [if_pos c1, List.append_assoc, List.getElem?_append_left (by omega), List.getElem?_take, if_pos c1]
  · rw [if_neg c1]
    by_cases c2 : i < off + vs.length
    · rw [if_pos c2, List.append_assoc, List.getElem?_append_right (by omega), e1, List.getElem?_append_left (by omega)]
    · rw [if_neg c2, List.getElem?_append_right (by rw [List.length_append]; omega), List.getElem?_drop, List.length_append, e1]
      congr 1; omega
theorem kW {α : Type} {d : Ty α} {enc : α → List Value} {ok : α → Prop} [Q : FlatTy d enc ok] (rs : List α) (k j : Nat) (r r' : α) (vs : List Value) (hr : rs[k]? = some r) (hj : j + vs.length ≤ d.sz) (h : enc r' = bR (enc r) j vs) : bR (encL enc rs) (k * d.sz + j) vs = encL enc (rs.set k r') := by
  have hk := (List.getElem?_eq_some_iff.1 hr).1
  have hle : (encL enc rs).length = rs.length * d.sz := eK (d := d) rs
  have hkz : k * d.sz + d.sz ≤ rs.length * d.sz := by rw [← Nat.succ_mul]; exact Nat.mul_le_mul_right _ hk
  rw [iS (d := d) rs k r' hk]
  have l1 : (enc r).length = d.sz := Q.len r
  have l2 : (enc r').length = d.sz := Q.len r'
  apply List.ext_getElem?
  intro i
  rw [mZ _ _ _ _ (by omega), mZ _ _ _ _ (by omega), l2]
  by_cases c1 : i < k * d.sz
  · rw [if_pos (by omega), if_pos c1]
  · rw [if_neg c1]
    by_cases c2 : i < k * d.sz + d.sz
    · obtain ⟨q, rfl⟩ : ∃ q, i = k * d.sz + q := ⟨i - k * d.sz, by omega⟩
      have hg := dK (d := d) rs k q r hr (by omega)
      rw [if_pos c2, h, Nat.add_sub_cancel_left, mZ _ _ _ _ (by omega), hg]
      by_cases c3 : q < j
      · rw [if_pos c3, if_pos (by omega)]
      · rw [if_neg c3, if_neg (by omega)]
        by_cases c4 : q < j + vs.length
        · rw [if_pos c4, if_pos (by omega)]; congr 1; omega
        · rw [if_neg c4, if_neg (by omega)]
    · rw [if_neg c2, if_neg (by omega), if_neg (by omega)]
abbrev RowI (a : Option Addr) (n c : Nat) (xs : List Int) : HP := Row a n c 3 1 (xs.map (.int .i64))
theorem aAp (xs : List Int) (x : Int) : List.map (Value.int .i64) xs ++ [.int .i64 x] = List.map (Value.int .i64) (xs ++ [x]) := by rw [List.map_append]; rfl
def uN (N : List NM) (k : Nat) : List Nat := (List.range k).filter (fun j => (N.getD j n0).1)
def xM (N : List NM) : List Int := (uN N N.length).map (fun (k : Nat) => (k : Int) + 1)
def rL (N : List NM) (E : List Ent) : List Int := if dP N E then xM N else []
theorem rN (N : List NM) (k : Nat) : uN N (k + 1) = uN N k ++ if (N.getD k n0).1 then [k] else [] := by
  unfold uN
  rw [List.range_succ, List.filter_append]
  congr 1
  by_cases c : (N.getD k n0).1 = true
  · rw [if_pos c, List.filter_cons, if_pos c]; rfl
  · rw [if_neg c, List.filter_cons, if_neg c]; rfl
theorem uN_pre {N : List NM} {k n : Nat} (h : k ≤ n) : ∃ l, uN N n = uN N k ++ l := by
  induction n with
  | zero => obtain rfl : k = 0 := by omega
            exact ⟨[], (List.append_nil _).symm⟩
  | succ n ih =>
    by_cases e : k = n + 1
    · subst e; exact ⟨[], (List.append_nil _).symm⟩
    · obtain ⟨l, hl⟩ := ih (by omega)
      rw [rN, hl, List.append_assoc]
      exact ⟨_, rfl⟩
theorem uN_len (N : List NM) (k : Nat) : (uN N k).length ≤ k := by unfold uN; have := List.length_filter_le (fun j => (N.getD j n0).1) (List.range k); rw [List.length_range] at this; exact this
def nodeX (N : List NM) (rs : List RNd) (i : Nat) (vals : List Value) (cx : List HP) : Prop := ∃ k r, (uN N N.length)[i]? = some k ∧ rs[k]? = some r ∧ vals = [.int .i64 ((k : Int) + 1), .agg (cNd r).toArray] ∧ cx = []
attribute [local irreducible] Hold J JL JD JX JXat OpR OpG Ret RetV Is Blk Row
set_option maxRecDepth 100000
set_option maxHeartbeats 1000000
theorem gused_r (w : World) (a a2 : Option Addr) (n c n2 c2 : Nat) :
    Ret Tryz.prog 124 #[.agg #[.slice a n c, .slice a2 n2 c2]] w fun v w' => ∃ b1, v = .func (.func 186) #[] #[ptr b1] ∧ Fresh w w' [Blk b1 (.cells #[.slice a n c, .slice a2 n2 c2] 57 (0, 0))] := by
  refine bI (l := [_]) Tryz.func124 rfl Tryz.ntmps124 (by simp) ?_
  have hs := St.init w
  repeat' (first | (apply aH) | ((apply aC); exact zop; first | (exact rfl; exact rfl) | exact rfl) | (apply aQ) | (apply aB) | (apply aF (t := 1); refine JL_o (by apply bN; exact bC hs rfl) rfl rfl ?_; rintro _ _ ⟨b1, rfl, hb1, hs, hE⟩))
  refine aM Tryz.func124 rfl (.tmp rfl .nil) ⟨b1, rfl, hs.out (List.Sublist.refl _)⟩
theorem zN (R : Nat → Prop) (wr : World) (b1 : Nat) (a a2 : Option Addr) (n c n2 c2 : Nat) (N : List NM) (rs : List RNd) (hr : Sl dRNd R wr a n c rs) (hl : N.length = n) (hm : ∀ (k : Nat) (r : RNd) (x : NM), rs[k]? = some r → N[k]? = some x → r.1 = x.1) (hb1 : wr.heap[b1]? = some (.cells #[.slice a n c, .slice a2 n2 c2] 57 (0, 0))) :
    aCl Tryz.prog (.func (.func 186) #[] #[ptr b1]) (uN N N.length).length (nodeX N rs) wr (fun k => (R k ∧ k < wr.heap.size) ∨ k = b1) := by
  intro y C Cs w c0 hy hK h0 hheld
  refine RetV.closure (avs := [_]) (cap := [_]) en186 ?_
  refine bI (l := [_, _]) Tryz.func186 rfl Tryz.ntmps186 (by simp) ?_
  have hs := hheld.st
  have hlr := hr.len
  have hmx : n ≤ 9223372036854775807 := by have h1 := hr.le; have h2 := hr.cap; unfold maxLen at h2; omega
  have hb1w := (hK b1 (.inr rfl)).1.trans hb1
  have hb1F := (hK b1 (.inr rfl)).2
  have hsl : ∀ {W : World} {L : List HP}, St w (Star c0).foot W L → Sl dRNd All W a n c rs := fun {W L} hs => (hr.loc (fun k hk hlt => hs.keepK (hK k (.inl ⟨hk, hlt⟩)).1 (hK k (.inl ⟨hk, hlt⟩)).2 hlt)).weak (fun _ _ => trivial)
  repeat' (first | (apply aH) | ((apply aC); (first | (apply aT; first | exact bL (v := .slice a n c) (hs.keep_cell (cA (off := 0) hb1w rfl) hb1F) rfl aI) | exact zop); first | (exact rfl; exact rfl) | exact rfl) | (apply aQ) | (apply aB) | (apply aN))
  refine bT (α := Nat × List HP) [(0, _), (1, _), (7, _)] (fun g => [(8, .int .i64 g.1)]) (fun g w' => St w (Star c0).foot w' g.2 ∧ C (uN N g.1).length g.2 ∧ g.1 ≤ n) (fun g => n - g.1) (0, c0) ⟨hs, h0, Nat.zero_le _⟩ zss ?_
  rintro ⟨k, ck⟩ w' ⟨hs, hC, hk⟩ ih
  dsimp only at hs hC hk ih ⊢
  by_cases hlt : k < n
  · obtain ⟨x, hx⟩ : ∃ x, N[k]? = some x := ⟨_, List.getElem?_eq_getElem (by omega)⟩
    obtain ⟨r, hrk⟩ : ∃ r, rs[k]? = some r := ⟨_, List.getElem?_eq_getElem (by omega)⟩
    have e1 := hm k r x hrk hx
    have hus := rN N k
    rw [cK hx, ← e1] at hus
    obtain ⟨p2, o2, rfl⟩ := (hsl hs).sl.addr (by omega)
    obtain ⟨xb, hxb⟩ : ∃ b, r.1 = b := ⟨_, rfl⟩
    cases xb with
    | true =>
      rw [hxb, if_pos rfl] at hus
      have hul := congrArg List.length hus
      rw [List.length_append] at hul
      obtain ⟨l, hpre⟩ := uN_pre (N := N) (k := k + 1) (n := N.length) (by omega)
      have hge : (uN N N.length)[(uN N k).length]? = some k := by
        rw [hpre, hus, List.append_assoc, List.getElem?_append_right (Nat.le_refl _), Nat.sub_self]; rfl
      have hlt2 := (List.getElem?_eq_some_iff.1 hge).1
      repeat' (first | ((apply bK; have hs2 : St w (Star c0).foot _ ((ck ++ []) ++ [Blk b4 _]) := (by simpa using hs.perm (List.perm_append_comm (l₁ := [_]) (l₂ := ck))); refine bM (t := 23) rfl gb (bX rfl rfl (hy _ _ [_, _] _ ck hlt2 hC ⟨k, r, hge, hrk, rfl, rfl⟩ hs2.held hs2.frm)) rfl rfl ?_; rintro _ _ ⟨c', ⟨rfl, hC'⟩ | ⟨rfl, hC'⟩, ht⟩ <;> have hs : St w (Star c0).foot _ c' := (hs2.take ht).sub (List.sublist_append_left _ _))) | (apply aH) | ((first | (apply aC) | (apply bA; exact rfl; exact gb)); (first | (apply aT; first | exact bL (v := .slice (some ⟨p2, o2, none⟩) n c) (hs.keep_cell (cA (off := 0) hb1w rfl) hb1F) rfl aI | exact aO (i := k) (hsl hs) hrk rfl rfl aI) | exact zop); first | (exact rfl; exact rfl) | exact rfl) | (apply aQ) | (apply aB) | (apply aN) | (apply aW) | (apply aV) | (apply aF (t := 4); refine JL_o (by apply aR; exact aJ hs) rfl rfl ?_; rintro _ _ ⟨b4, rfl, hb4, hs, hE⟩) | (apply aU; refine JL_u (by apply aP; exact aK hs rfl rfl rfl) rfl ?_; rintro _ _ ⟨hs, hF⟩) | (apply aG; first | refine aS rfl ob ?_ | refine bB rfl gb ?_ | refine bD rfl gb ?_))
      · refine ih (k + 1, c') _ _ ⟨hs, by dsimp only; rw [hul]; exact hC', hlt⟩ (by dsimp only; omega) zss
      · refine aM Tryz.func186 rfl .nil ⟨c', .inr hC', St.turned (M := []) (by simpa using hs)⟩
    | false =>
      rw [hxb, if_neg (by decide), List.append_nil] at hus
      repeat' (first | (apply aH) | ((apply aC); (first | (apply aT; first | exact bL (v := .slice (some ⟨p2, o2, none⟩) n c) (hs.keep_cell (cA (off := 0) hb1w rfl) hb1F) rfl aI | exact aO (i := k) (hsl hs) hrk rfl rfl aI) | exact zop); first | (exact rfl; exact rfl) | exact rfl) | (apply aQ) | (apply aB) | (apply aN) | (apply aW) | (apply aV) | (apply aF (t := 4); refine JL_o (by apply aR; exact aJ hs) rfl rfl ?_; rintro _ _ ⟨b4, rfl, hb4, hs, hE⟩) | (apply aU; refine JL_u (by apply aP; exact aK hs rfl rfl rfl) rfl ?_; rintro _ _ ⟨hs, hF⟩) | (apply bK; (refine cY rfl gb rfl ?_)) | (apply aG; first | refine aS rfl ob ?_ | refine bD rfl gb ?_))
      refine ih (k + 1, ck) _ _ ⟨hs.sub (List.sublist_cons_self _ _), by dsimp only; rw [hus]; exact hC, hlt⟩ (by dsimp only; omega) zss
  · have hkn : k = N.length := by omega
    rw [hkn] at hC
    repeat' (first | (apply aH) | ((apply aC); exact zop; first | (exact rfl; exact rfl) | exact rfl) | (apply aQ) | (apply aB) | (apply bG; refine bP rfl ?_) | (apply aG; refine aZ rfl ob ?_))
    refine eI Tryz.func186 rfl .nil ⟨ck, .inl hC, St.turned (M := []) (by simpa using hs)⟩
theorem aA9 (w : World) (a a2 : Option Addr) (n c n2 c2 : Nat) (N : List NM) (E : List Ent) (h : Sl eD All w a n c N) (hE0 : Sl dEnt All w a2 n2 c2 E) (hn : n ≤ 1000000) (hn2 : n2 ≤ 1048576) (hz : szN N) :
    Ret Tryz.prog 49 #[.agg #[.slice a n c, .slice a2 n2 c2]] w fun v w' => ∃ a' c', v = .slice a' (rL N E).length c' ∧ Fresh w w' [RowI a' (rL N E).length c' (rL N E)] := by
  refine bI (l := [_]) Tryz.func49 rfl Tryz.ntmps49 (by simp) ?_
  have hs := St.init w
  have hl := h.len
  obtain ⟨rs, hr, hm⟩ := Sl.raw (D := gD) h
  cases hc : dP N E with
  | false =>
    have he := iQ hc
    have e2 : rL N E = [] := by unfold rL; rw [hc]; rfl
    rw [e2]
    repeat' (first | ((apply aL 46; refine JL_o (by exact aA en46 rfl (dQ _ a a2 n c n2 c2 N E (h.st hs) (hE0.st hs) hn2 hz)) rfl rfl ?_; rintro _ _ ⟨rfl, hE⟩; rw [he]; have hs := hs.ext hE; (try simp only [zcc] at hs))) | (apply aH) | ((apply aC); exact zop; first | (exact rfl; exact rfl) | exact rfl) | (apply aQ) | (apply aB) | (apply aF (t := 1); refine JL_o (by apply bN; exact bC hs rfl) rfl rfl ?_; rintro _ _ ⟨b1, rfl, hb1, hs, hE⟩) | (apply aG; refine aS rfl ob ?_))
    have hs := hs.nilRow 3 1
    refine aM Tryz.func49 rfl (.tmp rfl .nil) ⟨none, 0, rfl, hs.out (.cons_cons _ (List.nil_sublist _))⟩
  | true =>
    have he := nG hc
    have e2 : rL N E = xM N := by unfold rL; rw [hc]; rfl
    rw [e2]
    repeat' (first | ((apply aL 46; refine JL_o (by exact aA en46 rfl (dQ _ a a2 n c n2 c2 N E (h.st hs) (hE0.st hs) hn2 hz)) rfl rfl ?_; rintro _ _ ⟨rfl, hE⟩; rw [he]; have hs := hs.ext hE; (try simp only [zcc] at hs))) | ((apply aL 124; refine JL_o (by exact aA en124 rfl (gused_r _ a a2 n c n2 c2)) rfl rfl ?_; rintro _ _ ⟨b9, rfl, hf⟩; have hs := hs.fresh hf; (try simp only [zcc] at hs))) | (apply aH) | ((apply aC); exact zop; first | (exact rfl; exact rfl) | exact rfl) | (apply aQ) | (apply aB) | (apply aN) | (apply aV) | (apply aF (t := 1); refine JL_o (by apply bN; exact bC hs rfl) rfl rfl ?_; rintro _ _ ⟨b1, rfl, hb1, hs, hE⟩) | (apply aF (t := 3); refine JL_o (by apply aR; exact aJ hs) rfl rfl ?_; rintro _ _ ⟨b3, rfl, hb3, hs, hE⟩) | (apply aG; refine aZ rfl ob ?_))
    have hbt := hs.blk (b := b9)
    have hlt9 := hs.lt (b := b9)
    have hs := hs.nilRow 3 1
    have hs0 : St w NoF _ ([Blk b3 (.cells #[.slice none 0 0] 86 (0, 0)), RowI none 0 0 []] ++ [Blk b9 _, Blk b1 _]) := hs.sel [2, 0, 1, 3] (by decide)
    have hr9 : Sl dRNd (fun k => k < w.heap.size) w a n c rs := hr.foc.weak (fun k hk => Sl.below (d := dRNd) (by decide) hr k hk)
    have hit := zN (fun k => k < w.heap.size) _ b9 a a2 n c n2 c2 N rs (hr9.loc (fun k hk _ => hs0.frm.old k hk id)) hl (fun k r x hrk hx => (hm.2 k r x hrk hx).1) hbt
    have huM := uN_len N N.length
    obtain ⟨U, hU⟩ : ∃ U, U = (uN N N.length).map (fun (k : Nat) => (k : Int) + 1) := ⟨_, rfl⟩
    have hUl : U.length = (uN N N.length).length := by rw [hU, List.length_map]
    have hUL : xM N = U := by rw [hU]; rfl
    rw [hUL]
    refine tE (ps := [10, 11]) hs0 rfl ⟨186, #[ptr b9], rfl, en186⟩ hit
      (fun k A => ∃ a' c', A = [Blk b3 (.cells #[.slice a' k c'] 86 (0, 0)), RowI a' k c' (U.take k)])
      (fun j A => False) ⟨none, 0, rfl⟩ ?_ (by decide) ?_ ?_ ?_ ?_
    · rintro k (⟨hk, hk2⟩ | rfl)
      · exact ⟨rfl, fun hf => by have := hs0.foot0 k hf; omega, hk2⟩
      · exact ⟨rfl, fun hf => hs0.sepA (.head _) hf (fM _ _), hlt9⟩
    · rintro i vals cx ⟨_, _, _, _, rfl, _⟩; rfl
    · rintro l2 D tm k w1 A1 cx vals hD hDl hk ⟨a', c', rfl⟩ ⟨j, r, hj, hrj, rfl, rfl⟩ hh hold
      have hs : St _ _ _ [_, _, _] := hh.st
      have huk : U[k]? = some ((j : Int) + 1) := by rw [hU, List.getElem?_map, hj]; rfl
      have htk : U.take (k + 1) = U.take k ++ [(j : Int) + 1] := by rw [List.take_add_one, huk]; rfl
      repeat' (first | ((refine eG hs (fun w2 hs => ?_))) | ((apply aF (t := 15); refine JL_o (by apply bW; exact cF (xs := (U.take k).map (.int .i64)) (news := [.int .i64 ((j : Int) + 1)]) hs rfl rfl (lC (hs.blk (b := b14)) rfl) cJ rfl (by omega) (by unfold maxLen; omega)) rfl rfl ?_; rintro _ _ ⟨a4, c4, rfl, hs, hF, hnil⟩; rw [aAp, ← htk] at hs)) | (apply aH) | ((apply aC); exact zop; first | (exact rfl; exact rfl) | exact rfl) | (apply aB) | (apply aN) | (apply aW) | (apply aF (t := 14); refine JL_o (by apply bJ; exact bF hs rfl (by omega) rfl) rfl rfl ?_; rintro _ _ ⟨b14, rfl, hb14, hs, hE⟩) | (apply aU; refine JL_u (by apply aP; exact aK hs rfl rfl rfl) rfl ?_; rintro _ _ ⟨hs, hF⟩))
      have hs : St _ _ _ [_, _, _] := hs.sel [1, 2, 3] (by decide)
      refine jI hs (fun w3 hs => .inl ⟨rfl, _, ⟨a4, c4, rfl⟩, St.turned (M := []) hs⟩)
    · rintro w2 D A2 ⟨a', c', rfl⟩ hs
      have hs : St w NoF _ [_, _, _, _, _] := hs
      rw [← hUl, List.take_length] at hs
      repeat' (first | ((refine pZ (lS hs (fun w3 hs => pX Tryz.func49 rfl (.tmp rfl .nil) ⟨a', c', rfl, (hs.sel [1] (by decide)).out (List.Sublist.refl _)⟩)))) | (apply aH) | ((apply aC); exact zop; first | (exact rfl; exact rfl) | exact rfl) | (apply aQ) | (apply aB) | (apply aW))
    · rintro w2 D A2 j hf hs
      exact hf.elim
end Go.Eng
end
section
namespace Go.Eng
open Go.Proofs
set_option linter.unusedSimpArgs false
set_option linter.unusedVariables false
attribute [local irreducible] Hold J JL JD JX JXat OpR OpG Ret RetV Is Blk Row
set_option maxRecDepth 100000
set_option maxHeartbeats 1000000
end Go.Eng
end
section
namespace Go.Eng
open Go.Proofs
set_option linter.unusedSimpArgs false
set_option linter.unusedVariables false
theorem aBb {es : List Ent} {t : List Int} (h : ∀ y ∈ es.filter dI, y.2.1 ≠ t) : kC es t = (0, false) := by
  unfold kC
  by_cases hc : cH es = true
  · rw [if_pos hc]
    rcases gE es t with h1 | ⟨q, x, hx, _, h1, h2⟩
    · rw [h1, if_pos (by decide)]
    · exact absurd h2 (h x (List.mem_filter.2 ⟨List.mem_of_getElem? hx, decide_eq_true h1⟩))
  · rw [if_neg hc]
theorem uU {es : List Ent} (h : cH es = true) : allF es = allM es := by unfold allF; rw [if_pos h]
theorem yU {es : List Ent} (hc : cH es = true) {x : Ent} (hx : x ∈ es.filter dI) : uI es x.2.1 = 0 := by
  obtain ⟨i, h1, _⟩ := tP hc hx
  unfold uI
  rw [if_pos hc, h1, if_neg (by omega)]
attribute [local irreducible] Hold J JL JD JX JXat OpR OpG Ret RetV Is Blk Row
set_option maxRecDepth 100000
set_option maxHeartbeats 1000000
theorem drop_ok (w : World) (a : Option Addr) (n c : Nat) (es : List Ent) (a2 : Option Addr) (n2 c2 : Nat) (t : List Int) (h : Sl dEnt All w a n c es) (hn : n ≤ 1048576) (h2 : Sl (tInt .u64) All w a2 n2 c2 t) (hd : uI es t = 0) :
    Ret Tryz.prog 106 #[.agg #[.slice a n c], .slice a2 n2 c2] w fun u w' => ∃ (p : Nat) (x : Ent) (rs' : List REnt) (a' : Option Addr) (c' : Nat), (es[p]? = some x ∧ x.1 = 1 ∧ x.2.1 = t) ∧ u = .tuple #[.agg #[.slice a' n c'], .int .i64 0] ∧ Fresh w w' [bZ a' n c' rs', Own rs' (es.set p gone)] :=
  (drop_r w a n c es a2 n2 c2 t h hn h2).mono fun u w' hh => by
    rcases hh with ⟨h1, _⟩ | ⟨_, h2⟩
    · exact absurd hd h1
    · exact h2
end Go.Eng
end
section
namespace Go.Eng
open Go.Proofs
set_option linter.unusedSimpArgs false
set_option linter.unusedVariables false
abbrev vR (N : List NM) (j : Nat) : Ent := (1, (N.getD j n0).2.1, (j : Int) + 1)
def useE (N : List NM) (k : Nat) : List Ent := (uN N k).map (vR N)
def yM (N : List NM) (k : Nat) : List Ent := (useE N k).foldl jZ []
def dZ (N : List NM) : List Ent := yM N N.length
theorem yL (N : List NM) (k : Nat) : yM N (k + 1) = if (N.getD k n0).1 then jZ (yM N k) (vR N k) else yM N k := by
  unfold yM useE
  rw [rN]
  by_cases h : (N.getD k n0).1 = true
  · rw [if_pos h, if_pos h, List.map_append, List.foldl_append]; rfl
  · rw [if_neg h, if_neg h, List.append_nil]
theorem mem_uN {N : List NM} {k j : Nat} : j ∈ uN N k ↔ j < k ∧ (N.getD j n0).1 = true := by
  unfold uN; rw [List.mem_filter, List.mem_range]
theorem uN_nodup (N : List NM) (k : Nat) : (uN N k).Pairwise (· ≠ ·) := (List.nodup_range (n := k)).sublist List.filter_sublist
theorem jF (N : List NM) : (dZ N).Perm (useE N N.length) := by
  have := (lI (useE N N.length) [] List.Pairwise.nil).2
  rw [List.append_nil] at this
  exact this
theorem iR (N : List NM) : iW (dZ N) := (lI _ [] List.Pairwise.nil).1
theorem wR (N : List NM) : (uN N N.length).length = dX N := by
  have h : ∀ k, k ≤ N.length → (uN N k).length = ((N.take k).filter (fun x => x.1)).length := by
    intro k
    induction k with
    | zero => intro _; rfl
    | succ k ih =>
      intro hk
      have hx : N[k]? = some (N[k]'(by omega)) := List.getElem?_eq_getElem (by omega)
      rw [rN, cK hx, List.length_append, ih (by omega), dU _ hx, List.length_append]
      cases (N[k]'(by omega)).1 <;> rfl
  have := h N.length (Nat.le_refl _)
  rw [List.take_length] at this
  exact this
theorem fV (N : List NM) : (dZ N).length = dX N := by rw [(jF N).length_eq]; unfold useE; rw [List.length_map, wR]
theorem ents_mem {N : List NM} {e : Ent} : e ∈ dZ N ↔ ∃ (j : Nat) (x : NM), N[j]? = some x ∧ x.1 = true ∧ e = (1, x.2.1, (j : Int) + 1) := by
  rw [(jF N).mem_iff]
  unfold useE
  rw [List.mem_map]
  constructor
  · rintro ⟨j, hj, rfl⟩
    obtain ⟨h1, h2⟩ := mem_uN.1 hj
    have hx : N[j]? = some (N[j]'h1) := List.getElem?_eq_getElem h1
    rw [cK hx] at h2
    exact ⟨j, _, hx, h2, by rw [vR, cK hx]⟩
  · rintro ⟨j, x, hx, h1, rfl⟩
    exact ⟨j, mem_uN.2 ⟨(List.getElem?_eq_some_iff.1 hx).1, by rw [cK hx]; exact h1⟩, by rw [vR, cK hx]⟩
abbrev hasU (t : List Int) (x : NM) : Bool := x.1 && decide (x.2.1 = t)
def pO (N : List NM) (t : List Int) : Nat → Nat → Nat
  | 0, _ => 0
  | f + 1, k => if hasU t (N.getD k n0) then k + 1 else pO N t f (k + 1)
def eX (N : List NM) (t : List Int) : Nat := pO N t N.length 0
theorem yJ {N : List NM} {t : List Int} {k : Nat} (hk : k < N.length) : pO N t (N.length - k) k = if hasU t (N.getD k n0) then k + 1 else pO N t (N.length - (k + 1)) (k + 1) := by
  obtain ⟨f, hf⟩ : ∃ f, N.length - k = f + 1 := ⟨N.length - k - 1, by omega⟩
  rw [hf, show N.length - (k + 1) = f by omega]
  rfl
theorem iD (N : List NM) (t : List Int) : ∀ f k, (pO N t f k = 0 ∧ ∀ i, k ≤ i → i < k + f → hasU t (N.getD i n0) = false) ∨ ∃ j, k ≤ j ∧ j < k + f ∧ pO N t f k = j + 1 ∧ hasU t (N.getD j n0) = true ∧ ∀ i, k ≤ i → i < j → hasU t (N.getD i n0) = false
  | 0, k => .inl ⟨rfl, fun i h1 h2 => by omega⟩
  | f + 1, k => by
    by_cases c : hasU t (N.getD k n0) = true
    · exact .inr ⟨k, Nat.le_refl _, by omega, by unfold pO; rw [if_pos c], c, fun i h1 h2 => by omega⟩
    · have e : pO N t (f + 1) k = pO N t f (k + 1) := by conv => lhs; unfold pO; rw [if_neg c]
      rw [e]
      have c2 : hasU t (N.getD k n0) = false := by simpa using c
      rcases iD N t f (k + 1) with ⟨h1, h2⟩ | ⟨j, h1, h2, h3, h4, h5⟩
      · refine .inl ⟨h1, fun i a b => ?_⟩
        by_cases e2 : i = k
        · rw [e2]; exact c2
        · exact h2 i (by omega) (by omega)
      · refine .inr ⟨j, by omega, by omega, h3, h4, fun i a b => ?_⟩
        by_cases e2 : i = k
        · rw [e2]; exact c2
        · exact h5 i (by omega) b
theorem hasU_true {t : List Int} {x : NM} : hasU t x = true ↔ x.1 = true ∧ x.2.1 = t := by unfold hasU; rw [Bool.and_eq_true, decide_eq_true_eq]
theorem findN_none {N : List NM} {t : List Int} : eX N t = 0 ↔ ∀ (i : Nat) (x : NM), N[i]? = some x → x.1 = true → x.2.1 ≠ t := by
  constructor
  · intro h i x hx h1 h2
    rcases iD N t N.length 0 with ⟨_, h3⟩ | ⟨j, _, _, h3, _⟩
    · have := h3 i (Nat.zero_le _) (by rw [Nat.zero_add]; exact (List.getElem?_eq_some_iff.1 hx).1)
      rw [cK hx, hasU_true.2 ⟨h1, h2⟩] at this
      cases this
    · unfold eX at h; omega
  · intro h
    rcases iD N t N.length 0 with ⟨h1, _⟩ | ⟨j, _, h2, _, h4, _⟩
    · exact h1
    · have hx : N[j]? = some (N[j]'(by omega)) := List.getElem?_eq_getElem (by omega)
      rw [cK hx] at h4
      obtain ⟨a, b⟩ := hasU_true.1 h4
      exact absurd b (h j _ hx a)
theorem findN_at {N : List NM} {j : Nat} {x : NM} (hx : N[j]? = some x) (h1 : x.1 = true) (hu : ∀ (i : Nat) (y : NM), N[i]? = some y → y.1 = true → y.2.1 = x.2.1 → i = j) : eX N x.2.1 = j + 1 := by
  rcases iD N x.2.1 N.length 0 with ⟨_, h3⟩ | ⟨q, _, h2, h3, h4, _⟩
  · have := h3 j (Nat.zero_le _) (by rw [Nat.zero_add]; exact (List.getElem?_eq_some_iff.1 hx).1)
    rw [cK hx, hasU_true.2 ⟨h1, rfl⟩] at this
    cases this
  · have hq : N[q]? = some (N[q]'(by omega)) := List.getElem?_eq_getElem (by omega)
    rw [cK hq] at h4
    obtain ⟨a, b⟩ := hasU_true.1 h4
    unfold eX
    rw [h3, hu q _ hq a b]
theorem uA {N : List NM} {t : List Int} (h : eX N t ≠ 0) : ∃ (j : Nat) (x : NM), N[j]? = some x ∧ x.1 = true ∧ x.2.1 = t ∧ eX N t = j + 1 ∧ ∀ (i : Nat) (y : NM), N[i]? = some y → y.1 = true → y.2.1 = t → j ≤ i := by
  rcases iD N t N.length 0 with ⟨h1, _⟩ | ⟨q, _, h2, h3, h4, h5⟩
  · exact absurd h1 h
  · have hq : N[q]? = some (N[q]'(by omega)) := List.getElem?_eq_getElem (by omega)
    rw [cK hq] at h4
    obtain ⟨a, b⟩ := hasU_true.1 h4
    refine ⟨q, _, hq, a, b, h3, fun i y hy c1 c2 => Decidable.by_contra fun hlt => ?_⟩
    have := h5 i (Nat.zero_le _) (by omega)
    rw [cK hy, hasU_true.2 ⟨c1, c2⟩] at this
    cases this
abbrev fZ (plus : Bool) (l : List Int) (id : Int) : List Int := if plus then wiT l id else outT l id
def rS (N : List NM) (n : Int) (row : List ST) (plus : Bool) (i : Nat) : Bool :=
  (decide (i = 0) || decide ((row.getD (i - 1) s0).1 < (row.getD i s0).1)) && (isM N (row.getD i s0).2 && ((decide ((row.getD i s0).1 ∈ (cZ N n).2.1) != plus) &&
    (decide (((row.getD i s0).1, n) ∈ sS (cZ N (row.getD i s0).2) plus) && decide ((cZ N (row.getD i s0).2).2.1 = fZ plus (cZ N n).2.1 (row.getD i s0).1))))
def gO (N : List NM) (n : Int) (row : List ST) (plus : Bool) : Bool := (List.range row.length).all (rS N n row plus)
theorem eC {N : List NM} {n : Int} {row : List ST} {plus : Bool} {k : Nat} (hk : k < row.length) (h : rS N n row plus k = false) : gO N n row plus = false := by
  unfold gO
  exact List.all_eq_false.2 ⟨k, List.mem_range.2 hk, by rw [h]; decide⟩
theorem stepsR_true {N : List NM} {n : Int} {row : List ST} {plus : Bool} : gO N n row plus = true ↔ ∀ k, k < row.length → rS N n row plus k = true := by
  unfold gO
  rw [List.all_eq_true]
  exact ⟨fun h k hk => h k (List.mem_range.2 hk), fun h k hk => h k (List.mem_range.1 hk)⟩
theorem xQ {N : List NM} {n : Int} {row : List ST} {plus : Bool} : fY N n row plus = true ↔ ∀ k, k < row.length → qD N n row plus k = true := by
  unfold fY
  rw [List.all_eq_true]
  exact ⟨fun h k hk => h k (List.mem_range.2 hk), fun h k hk => h k (List.mem_range.1 hk)⟩
def nZ (N : List NM) (i : Nat) : Bool :=
  if (N.getD i n0).1 then dF (N.getD i n0).2.1 && (decide (eX N (N.getD i n0).2.1 = i + 1) && (gO N ((i : Int) + 1) (N.getD i n0).2.2.1 true && gO N ((i : Int) + 1) (N.getD i n0).2.2.2 false))
  else decide ((N.getD i n0).2.1.length + (N.getD i n0).2.2.1.length + (N.getD i n0).2.2.2.length = 0)
def tW (N : List NM) : Bool := decide (N.length ≠ 0) && ((cZ N N.length).1 && ((cZ N 1).1 && decide ((cZ N 1).2.1.length = 0)))
def jY (N : List NM) : Bool := tW N && ((List.range N.length).all (nZ N) && decide (dX N ≤ 4000))
def wM (N : List NM) (E : List Ent) : Bool := jY N && (cH E && decide (allM E = dZ N))
abbrev iZ (l : List ST) : Prop := l.Pairwise (fun x y => x.1 < y.1)
abbrev lX (N : List NM) (i : Nat) (x : NM) (plus : Bool) (s : ST) : Prop := (s.1 ∈ x.2.1 ↔ plus = false) ∧ ∃ (j : Nat) (y : NM), s.2 = (j : Int) + 1 ∧ N[j]? = some y ∧ y.1 = true ∧ y.2.1 = fZ plus x.2.1 s.1 ∧ (s.1, (i : Int) + 1) ∈ sS y plus
structure GR (N : List NM) : Prop where
  last : ∃ x, N[N.length - 1]? = some x ∧ x.1 = true
  first : ∃ x, N[0]? = some x ∧ x.1 = true ∧ x.2.1 = []
  typ : ∀ (i : Nat) (x : NM), N[i]? = some x → x.1 = true → dF x.2.1 = true
  uniq : ∀ (i j : Nat) (x y : NM), N[i]? = some x → N[j]? = some y → x.1 = true → y.1 = true → x.2.1 = y.2.1 → i = j
  un : ∀ (i : Nat) (x : NM), N[i]? = some x → x.1 = false → x = n0
  rise : ∀ (i : Nat) (x : NM), N[i]? = some x → iZ x.2.2.1 ∧ iZ x.2.2.2
  plus : ∀ (i : Nat) (x : NM), N[i]? = some x → ∀ s ∈ x.2.2.1, lX N i x true s
  less : ∀ (i : Nat) (x : NM), N[i]? = some x → ∀ s ∈ x.2.2.2, lX N i x false s
  many : dX N ≤ 4000
theorem kN {l : List ST} {x : ST} {k : Nat} (h : l[k]? = some x) : l.getD k s0 = x := by rw [List.getD_eq_getElem?_getD, h]; rfl
theorem adjS {l : List ST} (h : ∀ i (hi : i + 1 < l.length), l[i].1 < l[i + 1].1) : iZ l := by
  refine List.pairwise_iff_getElem.2 fun i j hi hj hij => ?_
  induction j with
  | zero => omega
  | succ j ih =>
    by_cases e : i = j
    · subst e; exact h i hj
    · exact Int.lt_trans (ih (by omega) (by omega)) (h j hj)
theorem aAc {l : List ST} (h : ∀ k, k < l.length → (decide (k = 0) || decide ((l.getD (k - 1) s0).1 < (l.getD k s0).1)) = true) : iZ l := adjS fun i hi => by
  have := h (i + 1) hi
  rw [Bool.or_eq_true, decide_eq_true_eq, decide_eq_true_eq] at this
  have h3 := this.resolve_left (by omega)
  rw [Nat.add_sub_cancel, kN (List.getElem?_eq_getElem (by omega)), kN (List.getElem?_eq_getElem hi)] at h3
  exact h3
theorem aAn {l : List ST} (h : iZ l) {k : Nat} (hk : k < l.length) : (decide (k = 0) || decide ((l.getD (k - 1) s0).1 < (l.getD k s0).1)) = true := by
  by_cases e : k = 0
  · rw [decide_eq_true e]; rfl
  · rw [Bool.or_eq_true, decide_eq_true_eq, decide_eq_true_eq]
    refine .inr ?_
    rw [kN (List.getElem?_eq_getElem (by omega)), kN (List.getElem?_eq_getElem hk)]
    exact List.pairwise_iff_getElem.1 h (k - 1) k (by omega) hk (by omega)
theorem gT {N : List NM} {i : Nat} {x : NM} (hx : N[i]? = some x) {row : List ST} {plus : Bool} : gO N ((i : Int) + 1) row plus = true ↔ iZ row ∧ ∀ s ∈ row, lX N i x plus s := by
  rw [stepsR_true]
  constructor
  · intro h
    refine ⟨aAc fun k hk => ?_, fun s hs => ?_⟩
    · have := h k hk
      unfold rS at this
      exact (Bool.and_eq_true _ _ ▸ this : _ ∧ _).1
    · obtain ⟨k, hk⟩ := List.mem_iff_getElem?.1 hs
      have := h k (List.getElem?_eq_some_iff.1 hk).1
      unfold rS at this
      rw [kN hk, cO hx, Bool.and_eq_true, Bool.and_eq_true, Bool.and_eq_true, Bool.and_eq_true, decide_eq_true_eq, decide_eq_true_eq] at this
      obtain ⟨_, h2, h3, h4, h5⟩ := this
      obtain ⟨j, y, e1, e2, e3⟩ := isM_true.1 h2
      rw [e1, cO e2] at h4 h5
      refine ⟨?_, j, y, e1, e2, e3, h5, h4⟩
      by_cases c : s.1 ∈ x.2.1 <;> cases plus <;> simp [c] at h3 ⊢
  · rintro ⟨h1, h2⟩ k hk
    have hs : row[k]? = some row[k] := List.getElem?_eq_getElem hk
    obtain ⟨h3, j, y, e1, e2, e3, h5, h4⟩ := h2 _ (List.getElem_mem hk)
    unfold rS
    rw [aAn h1 hk, kN hs, cO hx, isM_true.2 ⟨j, y, e1, e2, e3⟩, e1, cO e2, decide_eq_true h4, decide_eq_true h5]
    by_cases c : row[k].1 ∈ x.2.1 <;> cases plus <;> simp [c] at h3 ⊢
theorem nD {N : List NM} (h : N.length ≠ 0) : cZ N N.length = N[N.length - 1]'(by omega) := by
  have := cO (N := N) (k := N.length - 1) (List.getElem?_eq_getElem (by omega))
  rw [show ((N.length - 1 : Nat) : Int) + 1 = N.length by omega] at this
  exact this
theorem nodes_iff {N : List NM} : jY N = true ↔ GR N := by
  constructor
  · intro h
    unfold jY tW at h
    rw [Bool.and_eq_true, Bool.and_eq_true, Bool.and_eq_true, Bool.and_eq_true, Bool.and_eq_true, decide_eq_true_eq, decide_eq_true_eq, decide_eq_true_eq, List.all_eq_true] at h
    obtain ⟨⟨h0, h1, h2, h3⟩, h4, h5⟩ := h
    rw [nD h0] at h1
    have hn0 : N[0]? = some (N[0]'(by omega)) := List.getElem?_eq_getElem (by omega)
    have e1 : cZ N 1 = N[0]'(by omega) := cO (k := 0) hn0
    rw [e1] at h2 h3
    have key : ∀ (i : Nat) (x : NM), N[i]? = some x → nZ N i = true := fun i x hx => h4 i (List.mem_range.2 (List.getElem?_eq_some_iff.1 hx).1)
    have yes : ∀ (i : Nat) (x : NM), N[i]? = some x → x.1 = true → dF x.2.1 = true ∧ eX N x.2.1 = i + 1 ∧ gO N ((i : Int) + 1) x.2.2.1 true = true ∧ gO N ((i : Int) + 1) x.2.2.2 false = true := by
      intro i x hx hu
      have := key i x hx
      unfold nZ at this
      rw [cK hx, if_pos hu, Bool.and_eq_true, Bool.and_eq_true, Bool.and_eq_true, decide_eq_true_eq] at this
      exact this
    have no : ∀ (i : Nat) (x : NM), N[i]? = some x → x.1 = false → x = n0 := by
      intro i x hx hu
      have := key i x hx
      unfold nZ at this
      rw [cK hx, if_neg (by rw [hu]; decide), decide_eq_true_eq] at this
      obtain ⟨a, b, c, d⟩ := x
      dsimp only at this hu
      rw [List.eq_nil_of_length_eq_zero (show b.length = 0 by omega), List.eq_nil_of_length_eq_zero (show c.length = 0 by omega), List.eq_nil_of_length_eq_zero (show d.length = 0 by omega), hu]
    refine ⟨⟨_, List.getElem?_eq_getElem (by omega), h1⟩, ⟨_, hn0, h2, List.eq_nil_of_length_eq_zero h3⟩, fun i x hx hu => (yes i x hx hu).1, fun i j x y hx hy hu hv e => ?_, no, fun i x hx => ?_, fun i x hx s hs => ?_, fun i x hx s hs => ?_, h5⟩
    · have a := (yes i x hx hu).2.1
      have b := (yes j y hy hv).2.1
      rw [e] at a
      omega
    · cases hu : x.1 with
      | true => exact ⟨((gT hx).1 (yes i x hx hu).2.2.1).1, ((gT hx).1 (yes i x hx hu).2.2.2).1⟩
      | false => rw [no i x hx hu]; exact ⟨List.Pairwise.nil, List.Pairwise.nil⟩
    · cases hu : x.1 with
      | true => exact ((gT hx).1 (yes i x hx hu).2.2.1).2 s hs
      | false => rw [no i x hx hu] at hs; cases hs
    · cases hu : x.1 with
      | true => exact ((gT hx).1 (yes i x hx hu).2.2.2).2 s hs
      | false => rw [no i x hx hu] at hs; cases hs
  · intro g
    obtain ⟨x0, hx0, hu0, ht0⟩ := g.first
    obtain ⟨xl, hxl, hul⟩ := g.last
    have hl0 := (List.getElem?_eq_some_iff.1 hx0).1
    unfold jY tW
    have e1 : cZ N 1 = x0 := cO (k := 0) hx0
    have e2 : cZ N N.length = xl := by rw [nD (by omega)]; exact (List.getElem?_eq_some_iff.1 hxl).2
    rw [e1, e2, hul, hu0, ht0, decide_eq_true g.many, decide_eq_true (show N.length ≠ 0 by omega)]
    rw [show (List.range N.length).all (nZ N) = true from List.all_eq_true.2 fun i hi => ?_]
    · rfl
    · have hi := List.mem_range.1 hi
      have hx : N[i]? = some N[i] := List.getElem?_eq_getElem hi
      unfold nZ
      rw [cK hx]
      cases hu : N[i].1 with
      | true =>
        rw [if_pos rfl, g.typ i _ hx hu, findN_at hx hu (fun j y hy hv e => g.uniq j i y _ hy hx hv hu e), (gT hx).2 ⟨(g.rise i _ hx).1, g.plus i _ hx⟩, (gT hx).2 ⟨(g.rise i _ hx).2, g.less i _ hx⟩]
        simp
      | false =>
        rw [if_neg (by decide), g.un i _ hx hu]
        rfl
end Go.Eng
end
