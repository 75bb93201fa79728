/- The texts G21, G20, G22, G23, G24, G25, G26, G27, G29, G30, joined: what of them serves. -/
import Derived.Test.YtcoldgkhlkjjmaaGreatV4
section
namespace Go.Eng
open Go.Proofs
set_option linter.unusedSimpArgs false
set_option linter.unusedVariables false
theorem vQ {qs : List QN} {k : Nat} {q : QN} (h : qs[k]? = some q) : qs = qs.take k ++ q :: qs.drop (k + 1) := by
  have hk := (List.getElem?_eq_some_iff.1 h).1
  conv => lhs; rw [← List.take_append_drop k qs, List.drop_eq_getElem_cons hk, (List.getElem?_eq_some_iff.1 h).2]
theorem vH {qs : List QN} {k : Nat} (qn : QN) (hk : k < qs.length) : qs.set k qn = qs.take k ++ qn :: qs.drop (k + 1) := by
  conv => lhs; rw [← List.take_append_drop k qs, List.drop_eq_getElem_cons hk]
  have hl : (qs.take k).length = k := by rw [List.length_take]; omega
  rw [List.set_append_right _ _ (by omega), hl, Nat.sub_self, List.set_cons_zero]
section
variable {w0 w : World} {F : Nat → Prop} {L : List HP}
theorem St.takeN {qs : List QN} {k : Nat} {q : QN} (hq : qs[k]? = some q) (h : St w0 F w (OwnN qs :: L)) : St w0 F w (rowN q :: OwnN (qs.take k ++ qs.drop (k + 1)) :: L) := by
  rw [vQ hq] at h
  have := St.outN h
  exact this
theorem St.putN {qs : List QN} {k : Nat} {qn : QN} (hk : k < qs.length) (h : St w0 F w (rowN qn :: OwnN (qs.take k ++ qs.drop (k + 1)) :: L)) : St w0 F w (OwnN (qs.set k qn) :: L) := by
  rw [vH qn hk]
  exact St.inN h
theorem St.replN {qs : List QN} {k : Nat} {q qn : QN} (hq : qs[k]? = some q) (h : St w0 F w (rowN qn :: OwnN qs :: L)) : St w0 F w (OwnN (qs.set k qn) :: L) := by
  have h1 : St w0 F w (OwnN qs :: rowN qn :: L) := h.perm (.swap _ _ _)
  have h2 := St.takeN hq h1
  have h3 : St w0 F w (rowN qn :: OwnN (qs.take k ++ qs.drop (k + 1)) :: L) := (h2.sub (List.sublist_cons_self _ _)).perm (.swap _ _ _)
  exact St.putN (List.getElem?_eq_some_iff.1 hq).1 h3
theorem St.zeroN (b : Bool) (h : St w0 F w L) : St w0 F w (rowN (b, (z0, []), (z0, []), (z0, [])) :: L) := by
  have h1 := ((h.nilRow 93 2).nilRow 93 2).nilRow 29 1
  exact St.packN (q := (b, (z0, []), (z0, []), (z0, []))) h1
end
theorem uI (b : Bool) : okN (b, (z0, []), (z0, []), (z0, [])) := ⟨⟨rfl, fun x h => by cases h⟩, ⟨rfl, fun x h => by cases h⟩, ⟨rfl, fun x h => by cases h⟩⟩
def GOut (w w' : World) (N' : List NM) (a' : Option Addr) (m' c' : Nat) (a2' : Option Addr) (m2 c2 : Nat) : Prop :=
  ∃ (qs : List QN) (es : List Ent) (rs' : List REnt), (qs.map gK = N' ∧ ∀ q ∈ qs, okN q) ∧ (dD es = true ∧ allM es = fC N') ∧ (N'.length = m' ∧ es.length = m2 ∧ m2 ≤ 1048576) ∧ Fresh w w' [TabN a' m' c' (qs.map rawN), OwnN qs, dE a2' m2 c2 rs', Own rs' es]
theorem vJ {N : List NM} {E : List Ent} (h : eC N E = true) {t : List Int} (ht : dX t = true) (hf : fW N t = 0) {v : Int} (hv : 0 ≤ v) : putE E t v = if fV N = 4000 then 6 else 0 := by
  obtain ⟨g, hc, hA⟩ := check_iff.1 h
  have h1 := lZ h t
  rw [hf, decide_eq_false (fun e => e rfl)] at h1
  have hp : ¬ 0 ≤ fF E t := fun hp => by
    unfold jH at h1
    rw [if_pos hc, if_neg (by omega)] at h1
    have := congrArg Prod.snd h1
    cases this
  unfold putE
  rw [if_pos hc, if_pos ht, if_neg (by omega), if_neg hp, hA, gV]
theorem uG {N : List NM} {E es : List Ent} (h : eC N E = true) {t : List Int} (hf : fW N t = 0) (hc : dD es = true) (hp : (es.filter dY).Perm (allM E ++ [(1, t, (dV N : Int) + 1)])) : allM es = fC (setN N (dV N) (newN t)) := by
  obtain ⟨g, hcE, hA⟩ := check_iff.1 h
  refine yZ hc (pW g.uniq hf) fun e => ?_
  rw [hp.mem_iff, List.mem_append, List.mem_singleton, uD, hA]
theorem jG {E : List Ent} (h : dD E = true) : LMax E := fun x hx => by have := lT h hx; omega
attribute [local irreducible] Hold J JL JD JX JXat OpR OpG Ret RetV Is Blk Row
set_option maxRecDepth 100000
set_option maxHeartbeats 2000000
theorem gof_r (w : World) (a a2 a3 : Option Addr) (n c n2 c2 n3 c3 : Nat) (N : List NM) (E : List Ent) (t : List Int) (h : Sl iL All w a n c N) (hE0 : Sl dEnt All w a2 n2 c2 E) (ht : Sl dId All w a3 n3 c3 t) (hn : n ≤ 900000) (hn2 : n2 ≤ 1048576) (hz : szN N) (hc : eC N E = true) :
    Ret Tryz.prog 99 #[.agg #[.slice a n c, .slice a2 n2 c2], .slice a3 n3 c3] w fun v w' =>
      (ofC N t ≠ 0 ∧ v = .tuple #[.agg #[.slice none 0 0, .slice none 0 0], .int .i64 0, .int .i64 (ofC N t)] ∧ Ext w w') ∨
      (ofC N t = 0 ∧ ∃ a' m' c' a2' m2 c2', v = .tuple #[.agg #[.slice a' m' c', .slice a2' m2 c2'], .int .i64 (ofn N t), .int .i64 0] ∧ m' ≤ n + 1 ∧ GOut w w' (ofL N t) a' m' c' a2' m2 c2') := by
  refine cG (l := [_, _]) Tryz.func99 rfl Tryz.ntmps99 (by simp) ?_
  have hs := St.init w
  have hl := h.len
  have hl2 := hE0.len
  have hto := mL ht
  have htl := ht.len
  obtain ⟨g, hcE, hA⟩ := check_iff.1 hc
  have hfg := lZ hc t
  obtain ⟨tb, htb⟩ : ∃ b, dX t = b := ⟨_, rfl⟩
  obtain ⟨f1, hf1⟩ : ∃ f, fW N t = f := ⟨_, rfl⟩
  rw [hf1] at hfg
  cases tb with
  | false =>
    have e1 : ofC N t = 130 := by unfold ofC; rw [htb]; rfl
    rw [e1]
    repeat' (first | ((apply aV 59; refine JL_o (by exact aB en59 rfl (dO _ a3 n3 c3 t (ht.st hs))) rfl rfl ?_; rintro _ _ ⟨rfl, hE⟩; rw [htb]; have hs := hs.ext hE; (try simp only [zcc] at hs))) | (apply aS) | ((apply aJ); (first | (apply aQ; exact aH rfl aA) | (apply aF; exact aC rfl aA) | (apply aL; exact aN rfl rfl rfl aA) | (apply cX; exact cL rfl (by (simp only [bld, cQ, bQ, Value.cells, List.take_succ_cons, List.take_zero, List.drop_succ_cons, List.drop_zero, List.cons_append, List.nil_append, List.length_cons, List.length_nil, List.getElem?_cons_zero, List.getElem?_cons_succ, Option.map_some, List.append_nil, Nat.reduceAdd, Nat.reduceMul, Nat.zero_add, Nat.reduceLeDiff, and_self, if_true, List.toList_toArray, Nat.le_refl, Nat.zero_mul, Nat.one_mul]; first | done | rfl)) aA)); first | (exact rfl; exact rfl) | exact rfl) | (apply bC) | (apply aG) | (apply aK (t := 2); refine JL_o (by apply bZ; exact bH hs rfl) rfl rfl ?_; rintro _ _ ⟨b2, rfl, hb2, hs, hE⟩) | (apply aK (t := 4); refine JL_o (by apply bB; exact aU hs) rfl rfl ?_; rintro _ _ ⟨b4, rfl, hb4, hs, hE⟩) | (apply bG; refine JL_u (by apply bA; exact aY hs rfl rfl rfl) rfl ?_; rintro _ _ ⟨hs, hF⟩) | (apply aT; refine bY rfl gb ?_))
    refine aZ Tryz.func99 rfl (.agg' hs rfl rfl (.tmp rfl (.tmp rfl .nil))) (.inl ⟨by decide, rfl, hs.frm.ext⟩)
  | true =>
  by_cases hf0 : f1 = 0
  rotate_left
  · have hfne : fW N t ≠ 0 := by omega
    have e1 : ofC N t = 0 := by unfold ofC; rw [htb, if_pos rfl, if_pos hfne]
    have e2 : ofL N t = N := by unfold ofL; rw [if_pos e1, if_pos hfne]
    have e3 : ofn N t = f1 := by unfold ofn; rw [if_pos e1, if_pos hfne, hf1]
    have hfd : decide (f1 ≠ 0) = true := decide_eq_true hf0
    rw [hfd] at hfg
    rw [e1, e2, e3]
    repeat' (first | ((apply aV 59; refine JL_o (by exact aB en59 rfl (dO _ a3 n3 c3 t (ht.st hs))) rfl rfl ?_; rintro _ _ ⟨rfl, hE⟩; rw [htb]; have hs := hs.ext hE; (try simp only [zcc] at hs))) | ((apply aV 119; refine JL_o (by exact aB qJ rfl (lO _ a2 n2 c2 E a3 n3 c3 t (hE0.st hs) hn2 (ht.st hs))) rfl rfl ?_; rintro _ _ ⟨rfl, hE⟩; rw [hfg]; have hs := hs.ext hE; (try simp only [zcc] at hs))) | ((apply aV 107; refine JL_o (by exact aB yK rfl (rO _ a a2 n c n2 c2 N E (h.st hs) (hE0.st hs) (by omega) hn2 hz (jG hcE))) rfl rfl ?_; rintro _ _ ⟨qs, rs', a', a2', ⟨hqm, hqo⟩, rfl, hf⟩; have hs := hs.fresh hf; (try simp only [zcc] at hs))) | (apply aS) | ((apply aJ); (first | (apply aQ; exact aH rfl aA) | (apply aF; exact aC rfl aA) | (apply aR; exact aM rfl rfl aA) | (apply aW; exact aI hs rfl aA) | (apply aL; exact aN rfl rfl rfl aA) | (apply bR; exact bM rfl rfl aA)); first | (exact rfl; exact rfl) | exact rfl) | (apply bC) | (apply aG) | (apply bJ) | (apply aK (t := 2); refine JL_o (by apply bZ; exact bH hs rfl) rfl rfl ?_; rintro _ _ ⟨b2, rfl, hb2, hs, hE⟩) | (apply aK (t := 4); refine JL_o (by apply bB; exact aU hs) rfl rfl ?_; rintro _ _ ⟨b4, rfl, hb4, hs, hE⟩) | (apply bG; refine JL_u (by apply bA; exact aY hs rfl rfl rfl) rfl ?_; rintro _ _ ⟨hs, hF⟩) | (apply aT; first | refine bY rfl gb ?_ | refine bT rfl gb ?_))
    refine aZ Tryz.func99 rfl (.agg' hs rfl rfl (.tmp rfl (.tmp rfl .nil))) (.inr ⟨rfl, a', n, n, a2', n2, n2, rfl, by omega, qs, E, rs', ⟨hqm, hqo⟩, ⟨hcE, hA⟩, ⟨hl, hl2, hn2⟩, hs.out (by simp)⟩)
  have hfz : fW N t = 0 := by omega
  have hfd : decide (f1 ≠ 0) = false := decide_eq_false (fun e => e hf0)
  rw [hfd] at hfg
  repeat' (first | ((apply aV 59; refine JL_o (by exact aB en59 rfl (dO _ a3 n3 c3 t (ht.st hs))) rfl rfl ?_; rintro _ _ ⟨rfl, hE⟩; rw [htb]; have hs := hs.ext hE; (try simp only [zcc] at hs))) | ((apply aV 119; refine JL_o (by exact aB qJ rfl (lO _ a2 n2 c2 E a3 n3 c3 t (hE0.st hs) hn2 (ht.st hs))) rfl rfl ?_; rintro _ _ ⟨rfl, hE⟩; rw [hfg]; have hs := hs.ext hE; (try simp only [zcc] at hs))) | (apply aS) | ((apply aJ); (first | (apply aQ; exact aH rfl aA) | (apply aF; exact aC rfl aA) | (apply aR; exact aM rfl rfl aA) | (apply aW; exact aI hs rfl aA) | (apply aL; exact aN rfl rfl rfl aA) | (apply bR; exact bM rfl rfl aA)); first | (exact rfl; exact rfl) | exact rfl) | (apply bC) | (apply aG) | (apply bD) | (apply bJ) | (apply aK (t := 2); refine JL_o (by apply bZ; exact bH hs rfl) rfl rfl ?_; rintro _ _ ⟨b2, rfl, hb2, hs, hE⟩) | (apply aK (t := 4); refine JL_o (by apply bB; exact aU hs) rfl rfl ?_; rintro _ _ ⟨b4, rfl, hb4, hs, hE⟩) | (apply aT; refine bT rfl gb ?_))
  refine dF (α := Nat) [(1, _), (2, _), (4, _)] (fun k => [(9, .int .i64 ((k : Int) + 1))]) (fun k w' => St w NoF w' [Blk b4 (.cells #[.slice none 0 0, .slice none 0 0] 57 (0, 0)), Blk b2 (.cells #[.slice a n c, .slice a2 n2 c2] 57 (0, 0))] ∧ k ≤ n ∧ ∀ (i : Nat) (x : NM), N[i]? = some x → i < k → x.1 = true) (fun k => n - k) 0 ⟨hs, Nat.zero_le _, fun i x _ hi => absurd hi (Nat.not_lt_zero _)⟩ zss ?_
  rintro k w2 ⟨hs1, hk, hall⟩ ih
  have hs : St w NoF w2 [_, _] := hs1
  have hki : inK .i64 ((k : Int) + 1) := by unfold inK; simp only [IntKind.min, IntKind.max, IntKind.bits, IntKind.signed]; omega
  by_cases hgo : isM N ((k : Int) + 1) = true
  · obtain ⟨j, y, hj, hy, hyu⟩ := isM_true.1 hgo
    have hjk : j = k := by omega
    subst hjk
    have hjl := (List.getElem?_eq_some_iff.1 hy).1
    repeat' (first | ((apply aV 105; refine JL_o (by exact aB eT rfl (is_r _ a a2 n c n2 c2 N ((j : Int) + 1) (h.st hs) hki)) rfl rfl ?_; rintro _ _ ⟨rfl, hE⟩; rw [hgo]; have hs := hs.ext hE; (try simp only [zcc] at hs))) | (apply aS) | ((apply aJ); (first | (apply aW; first | exact aX hs rfl rfl aA | exact aI hs rfl aA) | (apply aQ; exact aH rfl aA) | (apply aF; exact aC rfl aA) | (apply cJ; exact bV rfl rfl (by omega) (by first | (simp only [Int.reduceAdd]; exact rfl) | exact rfl) aA)); first | (exact rfl; exact rfl) | exact rfl) | (apply bC) | (apply aG) | (apply bD) | (apply bO) | (apply bJ) | (apply aT; refine bY rfl gb ?_))
    refine ih (j + 1) _ _ ⟨hs, by omega, fun i x hx hi => ?_⟩ (by omega) zss
    by_cases e : i = j
    · subst e; rw [hy] at hx; cases hx; exact hyu
    · exact hall i x hx (by omega)
  have hgo : isM N ((k : Int) + 1) = false := by simpa using hgo
  have hfk : dV N = k := vR (by omega) hall (fun x hx => by
    cases hxu : x.1 with
    | false => rfl
    | true => rw [isM_true.2 ⟨k, x, rfl, hx, hxu⟩] at hgo; cases hgo)
  have hput := vJ (v := (k : Int) + 1) hc htb hfz (by omega)
  by_cases hmu : fV N = 4000
  · have e1 : ofC N t = 6 := by unfold ofC; rw [htb, if_pos rfl, if_neg (fun e => e hfz), if_pos hmu]
    rw [if_pos hmu] at hput
    rw [e1]
    repeat' (first | ((apply aV 105; refine JL_o (by exact aB eT rfl (is_r _ a a2 n c n2 c2 N ((k : Int) + 1) (h.st hs) hki)) rfl rfl ?_; rintro _ _ ⟨rfl, hE⟩; rw [hgo]; have hs := hs.ext hE; (try simp only [zcc] at hs))) | ((apply aV 132; refine JL_o (by exact aB en132 rfl (put_bad _ a2 n2 c2 E a3 n3 c3 t ((k : Int) + 1) (hE0.st hs) hn2 (ht.st hs) hki (by rw [hput]; decide))) rfl rfl ?_; rintro _ _ ⟨rfl, hE⟩; rw [hput]; have hs := hs.ext hE; (try simp only [zcc] at hs))) | (apply aS) | ((apply aJ); (first | (apply aW; first | exact aX hs rfl rfl aA | exact aI hs rfl aA) | (apply aQ; exact aH rfl aA) | (apply aF; exact aC rfl aA) | (apply aR; exact aM rfl rfl aA) | (apply aL; exact aN rfl rfl rfl aA) | (apply bR; exact bM rfl rfl aA) | (apply cX; exact cL rfl (by (simp only [bld, cQ, bQ, Value.cells, List.take_succ_cons, List.take_zero, List.drop_succ_cons, List.drop_zero, List.cons_append, List.nil_append, List.length_cons, List.length_nil, List.getElem?_cons_zero, List.getElem?_cons_succ, Option.map_some, List.append_nil, Nat.reduceAdd, Nat.reduceMul, Nat.zero_add, Nat.reduceLeDiff, and_self, if_true, List.toList_toArray, Nat.le_refl, Nat.zero_mul, Nat.one_mul]; first | done | rfl)) aA)); first | (exact rfl; exact rfl) | exact rfl) | (apply bC) | (apply aG) | (apply cI; refine cY rfl ?_) | (apply aK (t := 10); refine JL_o (by apply bB; exact aU hs) rfl rfl ?_; rintro _ _ ⟨b10, rfl, hb10, hs, hE⟩) | (apply bG; refine JL_u (by apply bA; exact aY hs rfl rfl rfl) rfl ?_; rintro _ _ ⟨hs, hF⟩) | (apply aT; first | refine bI rfl ob ?_ | refine bT rfl gb ?_))
    refine aZ Tryz.func99 rfl (.agg' hs rfl rfl (.tmp rfl (.tmp rfl .nil))) (.inl ⟨by decide, rfl, hs.frm.ext⟩)
  have e1 : ofC N t = 0 := by unfold ofC; rw [htb, if_pos rfl, if_neg (fun e => e hfz), if_neg hmu]
  have e2 : ofL N t = setN N (dV N) (newN t) := by unfold ofL; rw [if_pos e1, if_neg (fun e => e hfz)]
  have e3 : ofn N t = dV N + 1 := by unfold ofn; rw [if_pos e1, if_neg (fun e => e hfz)]
  rw [if_neg hmu] at hput
  rw [e1, e2, e3, hfk]
  have ht12 := (typeB_iff.1 htb).1
  have ik : ((k : Int) + 1 - 1).toNat = k := by omega
  by_cases hkn : k = n
  · have hgt : (k : Int) + 1 > n := by omega
    have hbnd : 0 ≤ (k : Int) + 1 - 1 ∧ (k : Int) + 1 - 1 < (n + 1 : Nat) := by omega
    repeat' (first | ((apply aV 105; refine JL_o (by exact aB eT rfl (is_r _ a a2 n c n2 c2 N ((k : Int) + 1) (h.st hs) hki)) rfl rfl ?_; rintro _ _ ⟨rfl, hE⟩; rw [hgo]; have hs := hs.ext hE; (try simp only [zcc] at hs))) | ((apply aV 132; refine JL_o (by exact aB en132 rfl (xC _ a2 n2 c2 E a3 n3 c3 t ((k : Int) + 1) (hE0.st hs) hn2 (ht.st hs) hki hput)) rfl rfl ?_; rintro _ _ ⟨es1, rs1, a4, ⟨hce1, hpe1, hle1⟩, rfl, hf⟩; have hs := hs.fresh hf; (try simp only [zcc] at hs))) | ((apply aV 107; refine JL_o (by exact aB yK rfl (rO _ a a4 n c es1.length es1.length N es1 (h.st hs) (iS hs zmm zmm) (by omega) hle1 hz (jG hce1))) rfl rfl ?_; rintro _ _ ⟨qs, rs', a', a2', ⟨hqm, hqo⟩, rfl, hf⟩; have hs := hs.fresh hf; have hql : qs.length = n := (by have := congrArg List.length hqm; rw [List.length_map] at this; omega); have hset : ∀ u : RNd, bQ (encL cNd (qs.map rawN ++ [r00])) (((k : Int) + 1 - 1).toNat * 4) (cNd u) = encL cNd (qs.map rawN ++ [u]) := (fun u => by rw [ik, qH _ _ _ (by rw [List.length_append, List.length_map, hql, hkn]; simp), List.set_append_right _ _ (by rw [List.length_map]; omega), List.length_map, hql, hkn, Nat.sub_self]; rfl); (try simp only [zcc] at hs))) | ((apply ax_c; apply jY 114; exact rfl; (intro W X hN hs; exact aB yJ rfl (kL _ a3 n3 c3 t (ht.st hs) (by omega))); (rintro _ _ _ _ ⟨a9, rfl, hf⟩; first | exact hE | exact Fresh.ext hf); rintro W X _ _ hN hs ⟨a9, rfl, hf⟩; have hs := hs.fresh hf; (try simp only [zcc] at hs); refine JX.at hs ?_)) | ((apply aK (t := 57); refine JL_o (by apply dL; exact fI (xs := encL cNd (qs.map rawN)) (news := cNd r00) hs rfl rfl (tY (r := r00) (hs.blk (b := b56))) eX rfl (by omega) (by unfold maxLen; omega)) rfl rfl ?_; rintro _ _ ⟨a6, c6, rfl, hs, hF, hnil⟩; rw [rR] at hs; obtain ⟨b, o, rfl⟩ := (hs.row a6 (n + 1) c6).some (by omega))) | ((apply bG; refine JL_u (by apply bA; exact dJ (b := b) (o := o) (off := ((k : Int) + 1 - 1).toNat * 4) (n := n + 1) (c := c6) (vs := cNd (rNew (a9, n3, n3))) hs rfl rfl rfl rfl (by simp [Value.oneCell']) (by show ((k : Int) + 1 - 1).toNat * 4 + 4 ≤ (n + 1) * 4; omega)) rfl ?_; rintro _ _ ⟨hs, hF⟩; rw [hset] at hs)) | (apply aS) | ((first | (apply aJ) | (apply JX_f; exact rfl; intro W X hs)); (first | (apply aW; first | exact aX hs rfl rfl aA | exact aI hs rfl aA) | (apply aQ; exact aH rfl aA) | (apply aF; exact aC rfl aA) | (apply aR; exact aM rfl rfl aA) | (apply eD; exact dH rfl rfl (by omega) aA) | (apply aL; exact aN rfl rfl rfl aA) | (apply bK; exact bX rfl aA) | (apply bR; exact bM rfl rfl aA) | (apply aP; exact aO rfl rfl (by omega) (by omega) aA) | (apply cX; exact cL rfl (by (simp only [bld, cQ, bQ, Value.cells, List.take_succ_cons, List.take_zero, List.drop_succ_cons, List.drop_zero, List.cons_append, List.nil_append, List.length_cons, List.length_nil, List.getElem?_cons_zero, List.getElem?_cons_succ, Option.map_some, List.append_nil, Nat.reduceAdd, Nat.reduceMul, Nat.zero_add, Nat.reduceLeDiff, and_self, if_true, List.toList_toArray, Nat.le_refl, Nat.zero_mul, Nat.one_mul]; first | done | rfl)) aA)); first | (exact rfl; exact rfl) | exact rfl) | (apply bC) | (apply aG) | (apply cI; refine cY rfl ?_) | (apply bJ) | (apply aK (t := 10); refine JL_o (by apply bB; exact aU hs) rfl rfl ?_; rintro _ _ ⟨b10, rfl, hb10, hs, hE⟩) | (apply aK (t := 56); refine JL_o (by apply cR; exact cK hs rfl (by omega) rfl) rfl rfl ?_; rintro _ _ ⟨b56, rfl, hb56, hs, hE⟩) | (apply bG; refine JL_u (by apply bA; exact aY hs rfl rfl rfl) rfl ?_; rintro _ _ ⟨hs, hF⟩) | (apply aT; first | refine bI rfl ob ?_ | refine bN rfl ob ?_ | refine bT rfl gb ?_) | (apply cW; (refine dC (id := 16) [0, 1, 0, 4, 0, 16, 48, 127, 255] [(0, 0), (1, 0), (2, 0), (3, 0), (4, 0), (5, 1), (6, 0), (7, 0)] [8] hs eJ (by kernel_rfl) (by kernel_rfl) (by kernel_rfl) (by kernel_rfl) (by kernel_rfl) ?_)) | (refine cV (fun W hs => ?_)) | (apply fN; case' hos => (simp only [List.map_cons, List.map_nil, List.getElem?_toArray, List.getElem?_cons_succ, List.getElem?_cons_zero]; repeat' (first | exact gT | apply fL))))
    obtain ⟨qn, hqn⟩ : ∃ qn : QN, qn = (true, ((a9, n3, n3), t), (z0, []), (z0, [])) := ⟨_, rfl⟩
    have hqnm : gK qn = newN t := by rw [hqn]
    have hqno : okN qn := by rw [hqn]; exact ⟨⟨htl.symm, hto⟩, ⟨rfl, fun x h => by cases h⟩, ⟨rfl, fun x h => by cases h⟩⟩
    have hs := (hs.nilRow 93 2).nilRow 93 2
    have hs := St.packN (q := (true, ((a9, n3, n3), t), (z0, []), (z0, []))) (L := [OwnN qs, _, _, _, _]) (hs.sel [2, 0, 1, 5, 4, 6, 7, 11] (by decide))
    rw [← hqn] at hs
    have hs := St.pushN hs
    have hmp : (qs ++ [qn]).map rawN = qs.map rawN ++ [rNew (a9, n3, n3)] := by rw [List.map_append, hqn]; rfl
    rw [← hmp] at hs
    have hsn : setN N k (newN t) = N ++ [newN t] := by unfold setN; rw [if_neg (by omega)]
    have hents := uG hc hfz hce1 (by rw [hfk]; exact hpe1)
    rw [hfk] at hents
    refine aZ Tryz.func99 rfl (.agg' hs rfl rfl (.tmp rfl (.tmp rfl .nil))) (.inr ⟨rfl, some ⟨b, o, none⟩, n + 1, c6, a2', es1.length, es1.length, rfl, Nat.le_refl _, qs ++ [qn], es1, rs', ⟨by rw [List.map_append, hqm, hsn, ← hqnm]; rfl, fun u hu => ?_⟩, ⟨hce1, hents⟩, ⟨by rw [hsn, List.length_append, hl]; rfl, rfl, hle1⟩, (hs.sel [1, 0, 2, 3] (by decide)).out (List.Sublist.refl _)⟩)
    rcases List.mem_append.1 hu with e | e
    · exact hqo u e
    · rw [List.mem_singleton.1 e]; exact hqno
  · have hgt : ¬ (k : Int) + 1 > n := by omega
    have hbnd : 0 ≤ (k : Int) + 1 - 1 ∧ (k : Int) + 1 - 1 < n := by omega
    repeat' (first | ((apply aV 105; refine JL_o (by exact aB eT rfl (is_r _ a a2 n c n2 c2 N ((k : Int) + 1) (h.st hs) hki)) rfl rfl ?_; rintro _ _ ⟨rfl, hE⟩; rw [hgo]; have hs := hs.ext hE; (try simp only [zcc] at hs))) | ((apply aV 132; refine JL_o (by exact aB en132 rfl (xC _ a2 n2 c2 E a3 n3 c3 t ((k : Int) + 1) (hE0.st hs) hn2 (ht.st hs) hki hput)) rfl rfl ?_; rintro _ _ ⟨es1, rs1, a4, ⟨hce1, hpe1, hle1⟩, rfl, hf⟩; have hs := hs.fresh hf; (try simp only [zcc] at hs))) | ((apply aV 107; refine JL_o (by exact aB yK rfl (rO _ a a4 n c es1.length es1.length N es1 (h.st hs) (iS hs zmm zmm) (by omega) hle1 hz (jG hce1))) rfl rfl ?_; rintro _ _ ⟨qs, rs', a', a2', ⟨hqm, hqo⟩, rfl, hf⟩; have hs := hs.fresh hf; simp only [zcc] at hs; obtain ⟨b, o, rfl⟩ := (hs.row a' n n).some (by omega); have hql : qs.length = n := (by have := congrArg List.length hqm; rw [List.length_map] at this; omega); have hset : ∀ u : RNd, bQ (encL cNd (qs.map rawN)) (((k : Int) + 1 - 1).toNat * 4) (cNd u) = encL cNd ((qs.map rawN).set k u) := (fun u => by rw [ik]; exact qH _ k u (by rw [List.length_map]; omega)); (try simp only [zcc] at hs))) | ((apply ax_c; apply jY 114; exact rfl; (intro W X hN hs; exact aB yJ rfl (kL _ a3 n3 c3 t (ht.st hs) (by omega))); (rintro _ _ _ _ ⟨a9, rfl, hf⟩; first | exact hE | exact Fresh.ext hf); rintro W X _ _ hN hs ⟨a9, rfl, hf⟩; have hs := hs.fresh hf; (try simp only [zcc] at hs); refine JX.at hs ?_)) | ((apply bG; refine JL_u (by apply bA; exact dJ (b := b) (o := o) (off := ((k : Int) + 1 - 1).toNat * 4) (n := n) (c := n) (vs := cNd (rNew (a9, n3, n3))) hs rfl rfl rfl rfl (by simp [Value.oneCell']) (by show ((k : Int) + 1 - 1).toNat * 4 + 4 ≤ n * 4; omega)) rfl ?_; rintro _ _ ⟨hs, hF⟩; rw [hset] at hs)) | (apply aS) | ((first | (apply aJ) | (apply JX_f; exact rfl; intro W X hs)); (first | (apply aW; first | exact aX hs rfl rfl aA | exact aI hs rfl aA) | (apply aQ; exact aH rfl aA) | (apply aF; exact aC rfl aA) | (apply aR; exact aM rfl rfl aA) | (apply eD; exact dH rfl rfl (by omega) aA) | (apply aL; exact aN rfl rfl rfl aA) | (apply bK; exact bX rfl aA) | (apply bR; exact bM rfl rfl aA) | (apply aP; exact aO rfl rfl (by omega) (by omega) aA) | (apply cX; exact cL rfl (by (simp only [bld, cQ, bQ, Value.cells, List.take_succ_cons, List.take_zero, List.drop_succ_cons, List.drop_zero, List.cons_append, List.nil_append, List.length_cons, List.length_nil, List.getElem?_cons_zero, List.getElem?_cons_succ, Option.map_some, List.append_nil, Nat.reduceAdd, Nat.reduceMul, Nat.zero_add, Nat.reduceLeDiff, and_self, if_true, List.toList_toArray, Nat.le_refl, Nat.zero_mul, Nat.one_mul]; first | done | rfl)) aA)); first | (exact rfl; exact rfl) | exact rfl) | (apply bC) | (apply aG) | (apply cI; refine cY rfl ?_) | (apply bJ) | (apply aK (t := 10); refine JL_o (by apply bB; exact aU hs) rfl rfl ?_; rintro _ _ ⟨b10, rfl, hb10, hs, hE⟩) | (apply bG; refine JL_u (by apply bA; exact aY hs rfl rfl rfl) rfl ?_; rintro _ _ ⟨hs, hF⟩) | (apply aT; first | refine bN rfl ob ?_ | refine bT rfl gb ?_) | (apply cW; (refine dC (id := 16) [0, 1, 0, 4, 0, 16, 48, 127, 255] [(0, 0), (1, 0), (2, 0), (3, 0), (4, 0), (5, 1), (6, 0), (7, 0)] [8] hs eJ (by kernel_rfl) (by kernel_rfl) (by kernel_rfl) (by kernel_rfl) (by kernel_rfl) ?_)) | (refine cV (fun W hs => ?_)) | (apply fN; case' hos => (simp only [List.map_cons, List.map_nil, List.getElem?_toArray, List.getElem?_cons_succ, List.getElem?_cons_zero]; repeat' (first | exact gT | apply fL))))
    obtain ⟨qn, hqn⟩ : ∃ qn : QN, qn = (true, ((a9, n3, n3), t), (z0, []), (z0, [])) := ⟨_, rfl⟩
    have hqnm : gK qn = newN t := by rw [hqn]
    have hqno : okN qn := by rw [hqn]; exact ⟨⟨htl.symm, hto⟩, ⟨rfl, fun x h => by cases h⟩, ⟨rfl, fun x h => by cases h⟩⟩
    have hs := (hs.nilRow 93 2).nilRow 93 2
    have hs := St.packN (q := (true, ((a9, n3, n3), t), (z0, []), (z0, []))) (L := [OwnN qs, _, _, _, _]) (hs.sel [2, 0, 1, 4, 3, 5, 6, 10] (by decide))
    rw [← hqn] at hs
    obtain ⟨q0, hq0⟩ : ∃ q0, qs[k]? = some q0 := ⟨_, List.getElem?_eq_getElem (by omega)⟩
    have hs := St.replN hq0 hs
    have hmp : (qs.set k qn).map rawN = (qs.map rawN).set k (rNew (a9, n3, n3)) := by rw [List.map_set, hqn]
    rw [← hmp] at hs
    have hsn : setN N k (newN t) = N.set k (newN t) := by unfold setN; rw [if_pos (by omega)]
    have hents := uG hc hfz hce1 (by rw [hfk]; exact hpe1)
    rw [hfk] at hents
    refine aZ Tryz.func99 rfl (.agg' hs rfl rfl (.tmp rfl (.tmp rfl .nil))) (.inr ⟨rfl, some ⟨b, o, none⟩, n, n, a2', es1.length, es1.length, rfl, by omega, qs.set k qn, es1, rs', ⟨by rw [List.map_set, hqm, hsn, ← hqnm], fun u hu => ?_⟩, ⟨hce1, hents⟩, ⟨by rw [hsn, List.length_set, hl], rfl, hle1⟩, (hs.sel [1, 0, 2, 3] (by decide)).out (List.Sublist.refl _)⟩)
    rcases List.mem_or_eq_of_mem_set hu with e | e
    · exact hqo u e
    · rw [e]; exact hqno
end Go.Eng
end
section
namespace Go.Eng
open Go.Proofs
set_option linter.unusedSimpArgs false
set_option linter.unusedVariables false
theorem szN_of {N : List NM} {t : List Int} (hz : szN N) (ht : t.length ≤ 1000000) : szN (ofL N t) := by
  unfold ofL
  by_cases h : ofC N t = 0
  · rw [if_pos h]
    by_cases h2 : fW N t ≠ 0
    · rw [if_pos h2]; exact hz
    · rw [if_neg h2]
      intro x hx
      obtain ⟨i, hi⟩ := List.mem_iff_getElem?.1 hx
      rw [hP (fJ N)] at hi
      by_cases e : i = dV N
      · rw [if_pos e] at hi; cases hi; exact ⟨ht, by show 0 ≤ 1000000; omega, by show 0 ≤ 1000000; omega⟩
      · rw [if_neg e] at hi; exact hz x (List.mem_of_getElem? hi)
  · rw [if_neg h]; intro x hx; cases hx
theorem uJ {N : List NM} {lo hi : Nat} {id : Int} {a b : NM} (ha : N[hi]? = some a) (hb : N[lo]? = some b) : gU N lo hi id = (N.set hi (a.1, a.2.1, a.2.2.1, wiS a.2.2.2 (id, (lo : Int) + 1))).set lo (b.1, b.2.1, wiS b.2.2.1 (id, (hi : Int) + 1), b.2.2.2) := by
  unfold gU
  rw [dG ha, dG hb]
theorem okT_of {id : Int} {k : Nat} (h : okId id) (hk : k ≤ 1000000) : okT (id, (k : Int) + 1) := ⟨h, by show inK .i64 ((k : Int) + 1); unfold inK; simp only [IntKind.min, IntKind.max, IntKind.bits, IntKind.signed]; omega⟩
theorem wiS_ok {l : List ST} {s : ST} (h : ∀ x ∈ l, okT x) (hs : okT s) : ∀ x ∈ wiS l s, okT x := fun x hx => by
  rcases wiS_mem.1 hx with e | e
  · rw [e]; exact hs
  · exact h x e.1
attribute [local irreducible] Hold J JL JD JX JXat OpR OpG Ret RetV Is Blk Row
set_option maxRecDepth 100000
set_option maxHeartbeats 2000000
end Go.Eng
end
section
namespace Go.Eng
open Go.Proofs
set_option linter.unusedSimpArgs false
set_option linter.unusedVariables false
def goE (N : List NM) (E : List Ent) (n id : Int) (plus : Bool) : Int := if eC N E then goC N n id plus else 220
theorem iV {qs : List QN} {k : Nat} {q : QN} (h : ∀ u ∈ qs, okN u) (hq : okN q) : ∀ u ∈ qs.set k q, okN u := fun u hu => by
  rcases List.mem_or_eq_of_mem_set hu with e | e
  · exact h u e
  · rw [e]; exact hq
theorem pA {qs : List QN} {N : List NM} (h : qs.map gK = N) {k : Nat} {x : NM} (hx : N[k]? = some x) : ∃ q, qs[k]? = some q ∧ gK q = x := by
  rw [← h, List.getElem?_map] at hx
  cases hq : qs[k]? with
  | none => rw [hq] at hx; cases hx
  | some q => rw [hq] at hx; exact ⟨q, rfl, Option.some.inj hx⟩
theorem kC {w0 w : World} {F : Nat → Prop} {L A : List HP} {b : Nat} {o : Obj} (hs : St w0 F w (A ++ L)) (hb : Blk b o ∈ L) : ∀ k, (Star A).foot k → k ≠ b := fun k ⟨c, hc, hk⟩ e => by
  subst e
  exact (List.pairwise_append.1 hs.sep).2.2 c hc _ hb k hk rfl
theorem perm5a {α : Type} (a b c d e : α) (L : List α) : (a :: b :: c :: d :: e :: L).Perm (e :: b :: a :: c :: d :: L) := by
  classical
  rw [List.perm_iff_count]; intro x; simp only [List.count_cons]; omega
theorem perm5b {α : Type} (a b c d e : α) (L : List α) : (a :: b :: c :: d :: e :: L).Perm (e :: c :: a :: b :: d :: L) := by
  classical
  rw [List.perm_iff_count]; intro x; simp only [List.count_cons]; omega
theorem perm5c {α : Type} (a b c d e : α) (L : List α) : (a :: b :: c :: d :: e :: L).Perm (c :: b :: d :: e :: a :: L) := by
  classical
  rw [List.perm_iff_count]; intro x; simp only [List.count_cons]; omega
theorem perm5d {α : Type} (a b c d e : α) (L : List α) : (a :: b :: c :: d :: e :: L).Perm (c :: d :: b :: e :: a :: L) := by
  classical
  rw [List.perm_iff_count]; intro x; simp only [List.count_cons]; omega
theorem xN (N : List NM) (t : List Int) : (ofL N t).length ≤ N.length + 1 := by
  unfold ofL
  by_cases h : ofC N t = 0
  · rw [if_pos h]
    by_cases h2 : fW N t ≠ 0
    · rw [if_pos h2]; omega
    · rw [if_neg h2, uE (fJ N)]
      have := fJ N
      split <;> omega
  · rw [if_neg h]; simp
theorem gW {w : World} {b : Nat} {o : Obj} (h : (Blk b o).holds w) : w.heap[b]? = some o := h
theorem pS {N : List NM} (g : GR N) {i : Nat} {x : NM} {plus : Bool} {s : ST} (hs : lH N i x plus s) {q : Nat} {y : NM} {id : Int} (hy : N[q]? = some y) (hu : y.1 = true) (ht : y.2.1 = iR plus x.2.1 id) (e : s.1 = id) : s = (id, (q : Int) + 1) := by
  obtain ⟨_, j, y2, e1, e2, e3, e4, _⟩ := hs
  have : j = q := g.uniq j q y2 y e2 hy e3 hu (by rw [e4, ht, e])
  rw [this] at e1
  exact Prod.ext e e1
theorem qA {q : QN} {x : NM} (h : gK q = x) : q.1 = x.1 ∧ q.2.1.2 = x.2.1 ∧ q.2.2.1.2 = x.2.2.1 ∧ q.2.2.2.2 = x.2.2.2 := by
  subst h; exact ⟨rfl, rfl, rfl, rfl⟩
attribute [local irreducible] Hold J JL JD JX JXat OpR OpG Ret RetV Is Blk Row
set_option maxRecDepth 100000
set_option maxHeartbeats 2000000
theorem tB (w : World) (a a2 a3 : Option Addr) (n c n2 c2 n3 c3 : Nat) (N : List NM) (E : List Ent) (t : List Int) (h : Sl iL All w a n c N) (hE0 : Sl dEnt All w a2 n2 c2 E) (ht : Sl dId All w a3 n3 c3 t) (hn : n ≤ 900000) (hn2 : n2 ≤ 1048576) (hz : szN N) (hc : eC N E = true) (ho : ofC N t ≠ 0) :
    Ret Tryz.prog 99 #[.agg #[.slice a n c, .slice a2 n2 c2], .slice a3 n3 c3] w fun v w' => v = .tuple #[.agg #[.slice none 0 0, .slice none 0 0], .int .i64 0, .int .i64 (ofC N t)] ∧ Ext w w' :=
  (gof_r w a a2 a3 n c n2 c2 n3 c3 N E t h hE0 ht hn hn2 hz hc).mono fun v w' r => by
    rcases r with ⟨_, r⟩ | ⟨e, _⟩
    · exact r
    · exact absurd e ho
theorem yC (w : World) (a a2 a3 : Option Addr) (n c n2 c2 n3 c3 : Nat) (N : List NM) (E : List Ent) (t : List Int) (h : Sl iL All w a n c N) (hE0 : Sl dEnt All w a2 n2 c2 E) (ht : Sl dId All w a3 n3 c3 t) (hn : n ≤ 900000) (hn2 : n2 ≤ 1048576) (hz : szN N) (hc : eC N E = true) (ho : ofC N t = 0) :
    Ret Tryz.prog 99 #[.agg #[.slice a n c, .slice a2 n2 c2], .slice a3 n3 c3] w fun v w' => ∃ a' m' c' a2' m2 c2', v = .tuple #[.agg #[.slice a' m' c', .slice a2' m2 c2'], .int .i64 (ofn N t), .int .i64 0] ∧ m' ≤ n + 1 ∧ GOut w w' (ofL N t) a' m' c' a2' m2 c2' :=
  (gof_r w a a2 a3 n c n2 c2 n3 c3 N E t h hE0 ht hn hn2 hz hc).mono fun v w' r => by
    rcases r with ⟨e, _⟩ | ⟨_, r⟩
    · exact absurd ho e
    · exact r
theorem xX (w0 : World) (F : Nat → Prop) (w : World) (L : List HP) (b o n c k p : Nat) (qs : List QN) (q : QN) (x : NM) (id to : Int) (bid : Nat) (hk : k = p) (hs : St w0 F w (OwnN qs :: TabN (some ⟨b, o, none⟩) n c (qs.map rawN) :: L)) (hbl : Blk bid (.cells #[.int .u64 id] 29 (0, 0)) ∈ L)
    (hq : qs[p]? = some q) (hqm : gK q = x) (hqo : okN q) (hid : okId id) (hto : inK .i64 to) (hrise : jE x.2.2.1) (hsame : ∀ s ∈ x.2.2.1, s.1 = id → s = (id, to)) (hln : x.2.2.1.length ≤ 1000000) :
    Ret Tryz.prog 170 #[.pointer (some ⟨b, o + k * 4 + 2, none⟩), .int .i64 to, ptr bid] w fun _ w' => ∃ qn : QN, (gK qn = (x.1, x.2.1, wiS x.2.2.1 (id, to), x.2.2.2) ∧ okN qn) ∧ St w0 F w' (OwnN (qs.set p qn) :: TabN (some ⟨b, o, none⟩) n c ((qs.set p qn).map rawN) :: L) := by
  subst hk
  obtain ⟨hm1, hm2, hm3, hm4⟩ := qA hqm
  have hp := (List.getElem?_eq_some_iff.1 hq).1
  have hlt : (encL cNd (qs.map rawN)).length = n * 4 := (hs.row (some ⟨b, o, none⟩) n c).len
  have hll : qs.length = n := by rw [qI, List.length_map] at hlt; omega
  have hb : w.heap[bid]? = some (.cells #[.int .u64 id] 29 (0, 0)) := gW (hs.all _ (List.mem_cons_of_mem _ (List.mem_cons_of_mem _ hbl)))
  have h1 := St.unpackN (St.takeN hq hs)
  have h2 : St w0 F w ([TabN (some ⟨b, o, none⟩) n c (qs.map rawN), row2 q] ++ ([row1 q, row3 q, OwnN (qs.take k ++ qs.drop (k + 1))] ++ L)) := h1.perm (perm5a _ _ _ _ _ _)
  obtain ⟨⟨o1, o2⟩, ⟨o3, o4⟩, ⟨o5, o6⟩⟩ := hqo
  have hraw : (qs.map rawN)[k]? = some (rawN q) := by rw [List.getElem?_map, hq]; rfl
  have hcell : (encL cNd (qs.map rawN))[k * 4 + 2]? = some (.slice q.2.2.1.1.1 q.2.2.1.1.2.1 q.2.2.1.1.2.2) := by
    rw [show (encL cNd (qs.map rawN))[k * 4 + 2]? = (cNd (rawN q))[2]? from eW (d := dRNd) (qs.map rawN) k 2 (rawN q) hraw (by show 2 < 4; omega)]; rfl
  have hc := gput_r w b o n c (k * 4 + 2) (encL cNd (qs.map rawN)) q.2.2.1.1.1 q.2.2.1.1.2.1 q.2.2.1.1.2.2 q.2.2.1.2 id to bid (St.held (A := [_, _]) h2) hcell (by omega) o3.symm o4 hid hto (by rw [hm3]; exact hrise) (by rw [hm3]; exact hsame) (by rw [o3, hm3]; exact hln) hb (kC h2 (List.mem_append_right _ hbl))
  refine (show Ret Tryz.prog 170 #[.pointer (some ⟨b, o + k * 4 + 2, none⟩), .int .i64 to, ptr bid] w _ from hc).mono ?_
  rintro _ w' ⟨ra', rc', ht⟩
  have h3 := St.take (A := [_, _]) (A' := [_, _]) h2 ht
  rw [hm3] at h3
  refine ⟨(q.1, q.2.1, ((ra', (wiS x.2.2.1 (id, to)).length, rc'), wiS x.2.2.1 (id, to)), q.2.2.2), ⟨?_, ?_⟩, ?_⟩
  · exact nm_eq.2 ⟨hm1, hm2, rfl, hm4⟩
  · exact ⟨⟨o1, o2⟩, ⟨rfl, wiS_ok (hm3 ▸ o4) ⟨hid, hto⟩⟩, ⟨o5, o6⟩⟩
  · have h4 : St w0 F w' (row1 q :: RowT ra' (wiS x.2.2.1 (id, to)).length rc' (wiS x.2.2.1 (id, to)) :: row3 q :: OwnN (qs.take k ++ qs.drop (k + 1)) :: Row (some ⟨b, o, none⟩) n c 79 4 (bQ (encL cNd (qs.map rawN)) (k * 4 + 2) [.slice ra' (wiS x.2.2.1 (id, to)).length rc']) :: L) := h3.perm (perm5c _ _ _ _ _ _)
    have h5 := St.putN (qn := (q.1, q.2.1, ((ra', (wiS x.2.2.1 (id, to)).length, rc'), wiS x.2.2.1 (id, to)), q.2.2.2)) hp (St.packN (q := (q.1, q.2.1, ((ra', (wiS x.2.2.1 (id, to)).length, rc'), wiS x.2.2.1 (id, to)), q.2.2.2)) h4)
    rw [oG (qs.map rawN) k (rawN q) ra' _ rc' hraw] at h5
    rw [List.map_set]
    exact h5
theorem xY (w0 : World) (F : Nat → Prop) (w : World) (L : List HP) (b o n c k p : Nat) (qs : List QN) (q : QN) (x : NM) (id to : Int) (bid : Nat) (hk : k = p) (hs : St w0 F w (OwnN qs :: TabN (some ⟨b, o, none⟩) n c (qs.map rawN) :: L)) (hbl : Blk bid (.cells #[.int .u64 id] 29 (0, 0)) ∈ L)
    (hq : qs[p]? = some q) (hqm : gK q = x) (hqo : okN q) (hid : okId id) (hto : inK .i64 to) (hrise : jE x.2.2.2) (hsame : ∀ s ∈ x.2.2.2, s.1 = id → s = (id, to)) (hln : x.2.2.2.length ≤ 1000000) :
    Ret Tryz.prog 170 #[.pointer (some ⟨b, o + k * 4 + 3, none⟩), .int .i64 to, ptr bid] w fun _ w' => ∃ qn : QN, (gK qn = (x.1, x.2.1, x.2.2.1, wiS x.2.2.2 (id, to)) ∧ okN qn) ∧ St w0 F w' (OwnN (qs.set p qn) :: TabN (some ⟨b, o, none⟩) n c ((qs.set p qn).map rawN) :: L) := by
  subst hk
  obtain ⟨hm1, hm2, hm3, hm4⟩ := qA hqm
  have hp := (List.getElem?_eq_some_iff.1 hq).1
  have hlt : (encL cNd (qs.map rawN)).length = n * 4 := (hs.row (some ⟨b, o, none⟩) n c).len
  have hll : qs.length = n := by rw [qI, List.length_map] at hlt; omega
  have hb : w.heap[bid]? = some (.cells #[.int .u64 id] 29 (0, 0)) := gW (hs.all _ (List.mem_cons_of_mem _ (List.mem_cons_of_mem _ hbl)))
  have h1 := St.unpackN (St.takeN hq hs)
  have h2 : St w0 F w ([TabN (some ⟨b, o, none⟩) n c (qs.map rawN), row3 q] ++ ([row1 q, row2 q, OwnN (qs.take k ++ qs.drop (k + 1))] ++ L)) := h1.perm (perm5b _ _ _ _ _ _)
  obtain ⟨⟨o1, o2⟩, ⟨o3, o4⟩, ⟨o5, o6⟩⟩ := hqo
  have hraw : (qs.map rawN)[k]? = some (rawN q) := by rw [List.getElem?_map, hq]; rfl
  have hcell : (encL cNd (qs.map rawN))[k * 4 + 3]? = some (.slice q.2.2.2.1.1 q.2.2.2.1.2.1 q.2.2.2.1.2.2) := by
    rw [show (encL cNd (qs.map rawN))[k * 4 + 3]? = (cNd (rawN q))[3]? from eW (d := dRNd) (qs.map rawN) k 3 (rawN q) hraw (by show 3 < 4; omega)]; rfl
  have hc := gput_r w b o n c (k * 4 + 3) (encL cNd (qs.map rawN)) q.2.2.2.1.1 q.2.2.2.1.2.1 q.2.2.2.1.2.2 q.2.2.2.2 id to bid (St.held (A := [_, _]) h2) hcell (by omega) o5.symm o6 hid hto (by rw [hm4]; exact hrise) (by rw [hm4]; exact hsame) (by rw [o5, hm4]; exact hln) hb (kC h2 (List.mem_append_right _ hbl))
  refine (show Ret Tryz.prog 170 #[.pointer (some ⟨b, o + k * 4 + 3, none⟩), .int .i64 to, ptr bid] w _ from hc).mono ?_
  rintro _ w' ⟨ra', rc', ht⟩
  have h3 := St.take (A := [_, _]) (A' := [_, _]) h2 ht
  rw [hm4] at h3
  refine ⟨(q.1, q.2.1, q.2.2.1, ((ra', (wiS x.2.2.2 (id, to)).length, rc'), wiS x.2.2.2 (id, to))), ⟨?_, ?_⟩, ?_⟩
  · exact nm_eq.2 ⟨hm1, hm2, hm3, rfl⟩
  · exact ⟨⟨o1, o2⟩, ⟨o3, o4⟩, ⟨rfl, wiS_ok (hm4 ▸ o6) ⟨hid, hto⟩⟩⟩
  · have h4 : St w0 F w' (row1 q :: row2 q :: RowT ra' (wiS x.2.2.2 (id, to)).length rc' (wiS x.2.2.2 (id, to)) :: OwnN (qs.take k ++ qs.drop (k + 1)) :: Row (some ⟨b, o, none⟩) n c 79 4 (bQ (encL cNd (qs.map rawN)) (k * 4 + 3) [.slice ra' (wiS x.2.2.2 (id, to)).length rc']) :: L) := h3.perm (perm5d _ _ _ _ _ _)
    have h5 := St.putN (qn := (q.1, q.2.1, q.2.2.1, ((ra', (wiS x.2.2.2 (id, to)).length, rc'), wiS x.2.2.2 (id, to)))) hp (St.packN (q := (q.1, q.2.1, q.2.2.1, ((ra', (wiS x.2.2.2 (id, to)).length, rc'), wiS x.2.2.2 (id, to)))) h4)
    rw [oF (qs.map rawN) k (rawN q) ra' _ rc' hraw] at h5
    rw [List.map_set]
    exact h5
theorem yA (w : World) (a a2 : Option Addr) (n c n2 c2 : Nat) (N : List NM) (E : List Ent) (X0 id : Int) (h : Sl iL All w a n c N) (hE0 : Sl dEnt All w a2 n2 c2 E) (hn : n ≤ 900000) (hn2 : n2 ≤ 1048576) (hz : szN N) (hx0 : inK .i64 X0) (hid : okId id) :
    Ret Tryz.prog 100 #[.agg #[.slice a n c, .slice a2 n2 c2], .int .i64 X0, .int .u64 id, .bool true, .func (.func 45) #[] #[]] w fun v w' =>
      (goE N E X0 id true ≠ 0 ∧ v = .tuple #[.agg #[.slice none 0 0, .slice none 0 0], .int .i64 0, .int .i64 (goE N E X0 id true)] ∧ Ext w w') ∨
      (goE N E X0 id true = 0 ∧ ∃ a' m' c' a2' m2 c2', v = .tuple #[.agg #[.slice a' m' c', .slice a2' m2 c2'], .int .i64 (gon N X0 id true), .int .i64 0] ∧ m' ≤ n + 1 ∧ GOut w w' (goL N X0 id true) a' m' c' a2' m2 c2') := by
  refine cG (l := [_, _, _, _, _]) Tryz.func100 rfl Tryz.ntmps100 (by simp) ?_
  have hs := St.init w
  have hl := h.len
  have hl2 := hE0.len
  obtain ⟨rs, hr, hm⟩ := Sl.raw (D := mV) h
  cases hc : eC N E with
  | false =>
    have he := gN hc
    have eE : goE N E X0 id true = 220 := by unfold goE; rw [hc]; rfl
    rw [eE]
    repeat' (first | ((apply aV 46; refine JL_o (by exact aB en46 rfl (dK _ a a2 n c n2 c2 N E (h.st hs) (hE0.st hs) hn2 hz)) rfl rfl ?_; rintro _ _ ⟨rfl, hE⟩; rw [he]; have hs := hs.ext hE; (try simp only [zcc] at hs))) | (apply aS) | ((apply aJ); (first | (apply aW; first | exact aX hs rfl rfl aA | exact aI hs rfl aA) | (apply aQ; exact aH rfl aA) | (apply aF; exact aC rfl aA) | (apply aL; exact aN rfl rfl rfl aA) | (apply cX; exact cL rfl (by (simp only [bld, cQ, bQ, Value.cells, List.take_succ_cons, List.take_zero, List.drop_succ_cons, List.drop_zero, List.cons_append, List.nil_append, List.length_cons, List.length_nil, List.getElem?_cons_zero, List.getElem?_cons_succ, Option.map_some, List.append_nil, Nat.reduceAdd, Nat.reduceMul, Nat.zero_add, Nat.reduceLeDiff, and_self, if_true, List.toList_toArray, Nat.le_refl, Nat.zero_mul, Nat.one_mul]; first | done | rfl)) aA)); first | (exact rfl; exact rfl) | exact rfl) | (apply bC) | (apply aG) | (apply aK (t := 5); refine JL_o (by apply bZ; exact bH hs rfl) rfl rfl ?_; rintro _ _ ⟨b5, rfl, hb5, hs, hE⟩) | (apply aK (t := 7); refine JL_o (by apply bZ; exact bH hs rfl) rfl rfl ?_; rintro _ _ ⟨b7, rfl, hb7, hs, hE⟩) | (apply aK (t := 10); refine JL_o (by apply bB; exact aU hs) rfl rfl ?_; rintro _ _ ⟨b10, rfl, hb10, hs, hE⟩) | (apply bG; refine JL_u (by apply bA; exact aY hs rfl rfl rfl) rfl ?_; rintro _ _ ⟨hs, hF⟩) | (apply aT; refine bI rfl ob ?_))
    refine aZ Tryz.func100 rfl (.agg' hs rfl rfl (.tmp rfl (.tmp rfl .nil))) (.inl ⟨by decide, rfl, hs.frm.ext⟩)
  | true =>
  have he := jC hc
  obtain ⟨g, hcE, hA⟩ := check_iff.1 hc
  have eE : goE N E X0 id true = goC N X0 id true := by unfold goE; rw [hc]; rfl
  rw [eE]
  cases hi : isM N X0 with
  | false =>
    have e1 : goC N X0 id true = 2 := by unfold goC; rw [hi]; rfl
    rw [e1]
    repeat' (first | ((apply aV 46; refine JL_o (by exact aB en46 rfl (dK _ a a2 n c n2 c2 N E (h.st hs) (hE0.st hs) hn2 hz)) rfl rfl ?_; rintro _ _ ⟨rfl, hE⟩; rw [he]; have hs := hs.ext hE; (try simp only [zcc] at hs))) | ((apply aV 105; refine JL_o (by exact aB eT rfl (is_r _ a a2 n c n2 c2 N X0 (h.st hs) hx0)) rfl rfl ?_; rintro _ _ ⟨rfl, hE⟩; rw [hi]; have hs := hs.ext hE; (try simp only [zcc] at hs))) | (apply aS) | ((apply aJ); (first | (apply aW; first | exact aX hs rfl rfl aA | exact aI hs rfl aA) | (apply aQ; exact aH rfl aA) | (apply aF; exact aC rfl aA) | (apply aL; exact aN rfl rfl rfl aA) | (apply cE; exact cF rfl aA) | (apply cX; exact cL rfl (by (simp only [bld, cQ, bQ, Value.cells, List.take_succ_cons, List.take_zero, List.drop_succ_cons, List.drop_zero, List.cons_append, List.nil_append, List.length_cons, List.length_nil, List.getElem?_cons_zero, List.getElem?_cons_succ, Option.map_some, List.append_nil, Nat.reduceAdd, Nat.reduceMul, Nat.zero_add, Nat.reduceLeDiff, and_self, if_true, List.toList_toArray, Nat.le_refl, Nat.zero_mul, Nat.one_mul]; first | done | rfl)) aA)); first | (exact rfl; exact rfl) | exact rfl) | (apply bC) | (apply aG) | (apply bJ) | (apply aK (t := 5); refine JL_o (by apply bZ; exact bH hs rfl) rfl rfl ?_; rintro _ _ ⟨b5, rfl, hb5, hs, hE⟩) | (apply aK (t := 7); refine JL_o (by apply bZ; exact bH hs rfl) rfl rfl ?_; rintro _ _ ⟨b7, rfl, hb7, hs, hE⟩) | (apply aK (t := 10); refine JL_o (by apply bB; exact aU hs) rfl rfl ?_; rintro _ _ ⟨b10, rfl, hb10, hs, hE⟩) | (apply bG; refine JL_u (by apply bA; exact aY hs rfl rfl rfl) rfl ?_; rintro _ _ ⟨hs, hF⟩) | (apply aT; first | refine bN rfl ob ?_ | refine bY rfl gb ?_))
    refine aZ Tryz.func100 rfl (.agg' hs rfl rfl (.tmp rfl (.tmp rfl .nil))) (.inl ⟨by decide, rfl, hs.frm.ext⟩)
  | true =>
  obtain ⟨p, x, rfl, hxp, hxu⟩ := isM_true.1 hi
  have hpl := (List.getElem?_eq_some_iff.1 hxp).1
  have hnd : dS N ((p : Int) + 1) = x := dM hxp
  obtain ⟨r0, hr0, hrel0⟩ := hm.get hxp
  obtain ⟨u1, mT, u3, u4⟩ := wZ hrel0
  have mTl := mT.len
  have hTy := g.typ p x hxp hxu
  obtain ⟨hT12, hTr, _⟩ := typeB_iff.1 hTy
  have hr0' : rs[((p : Int) + 1 - 1).toNat]? = some r0 := by rw [show ((p : Int) + 1 - 1).toNat = p by omega]; exact hr0
  have hbx : 0 ≤ (p : Int) + 1 - 1 ∧ (p : Int) + 1 - 1 < n := by omega
  obtain ⟨b0, o0, rfl⟩ := hr.sl.addr (by omega)
  have hgc : goC N ((p : Int) + 1) id true = (if mayM id then (if id ∈ x.2.1 then 0 else if x.2.1.length = 12 then 6 else ofC N (wiT x.2.1 id)) else 2) := by unfold goC; rw [hi, if_pos rfl, hnd]; rfl
  have hst : mU N ((p : Int) + 1) id true = decide (id ∈ x.2.1) := by unfold mU; rw [hnd]; rfl
  cases hmay : mayM id with
  | false =>
    rw [hmay, if_neg (by decide)] at hgc
    have hwC : hM x.2.1 id = 2 := by unfold hM; rw [if_pos hTy, if_neg (by rw [hmay]; decide)]
    have hwL : gG x.2.1 id = [] := by unfold gG; rw [hwC]; rfl
    rw [hgc]
    repeat' (first | ((apply aV 46; refine JL_o (by exact aB en46 rfl (dK _ (some ⟨b0, o0, none⟩) a2 n c n2 c2 N E (h.st hs) (hE0.st hs) hn2 hz)) rfl rfl ?_; rintro _ _ ⟨rfl, hE⟩; rw [he]; have hs := hs.ext hE; (try simp only [zcc] at hs))) | ((apply aV 105; refine JL_o (by exact aB eT rfl (is_r _ (some ⟨b0, o0, none⟩) a2 n c n2 c2 N ((p : Int) + 1) (h.st hs) hx0)) rfl rfl ?_; rintro _ _ ⟨rfl, hE⟩; rw [hi]; have hs := hs.ext hE; (try simp only [zcc] at hs))) | ((apply aK (t := 43); refine JL_o (cH rfl rfl (Ret.value (cap := #[]) en45 (lF _ r0.2.1.1 r0.2.1.2.1 r0.2.1.2.2 x.2.1 id (mT.st hs) hid))) rfl rfl ?_; rintro _ _ ⟨aw, rfl, hf⟩; rw [hwL] at hf; rw [hwC, hwL]; have hs := hs.fresh hf; (try simp only [zcc] at hs))) | (apply aS) | ((apply aJ); (first | (apply aW; first | exact aX hs rfl rfl aA | exact aI hs rfl aA | exact cD (i := ((p : Int) + 1 - 1).toNat) (j := 1) (hr.st hs) hr0' rfl rfl rfl aA) | (apply aQ; exact aH rfl aA) | (apply aF; exact aC rfl aA) | (apply aR; first | exact aM rfl rfl aA | exact bL rfl rfl aA) | (apply eD; exact dH rfl rfl (by omega) aA) | (apply aL; exact aN rfl rfl rfl aA) | (apply cE; exact cF rfl aA) | (apply bR; exact bM rfl rfl aA) | (apply aP; exact aO rfl rfl (by omega) (by omega) aA) | (apply cX; exact cL rfl (by (simp only [bld, cQ, bQ, Value.cells, List.take_succ_cons, List.take_zero, List.drop_succ_cons, List.drop_zero, List.cons_append, List.nil_append, List.length_cons, List.length_nil, List.getElem?_cons_zero, List.getElem?_cons_succ, Option.map_some, List.append_nil, Nat.reduceAdd, Nat.reduceMul, Nat.zero_add, Nat.reduceLeDiff, and_self, if_true, List.toList_toArray, Nat.le_refl, Nat.zero_mul, Nat.one_mul]; first | done | rfl)) aA)); first | (exact rfl; exact rfl) | exact rfl) | (apply bC) | (apply aG) | (apply bJ) | (apply aK (t := 5); refine JL_o (by apply bZ; exact bH hs rfl) rfl rfl ?_; rintro _ _ ⟨b5, rfl, hb5, hs, hE⟩) | (apply aK (t := 7); refine JL_o (by apply bZ; exact bH hs rfl) rfl rfl ?_; rintro _ _ ⟨b7, rfl, hb7, hs, hE⟩) | (apply aK (t := 10); refine JL_o (by apply bB; exact aU hs) rfl rfl ?_; rintro _ _ ⟨b10, rfl, hb10, hs, hE⟩) | (apply bG; refine JL_u (by apply bA; exact aY hs rfl rfl rfl) rfl ?_; rintro _ _ ⟨hs, hF⟩) | (apply aT; first | refine bI rfl ob ?_ | refine bN rfl ob ?_ | refine bT rfl gb ?_))
    refine aZ Tryz.func100 rfl (.agg' hs rfl rfl (.tmp rfl (.tmp rfl .nil))) (.inl ⟨by decide, rfl, hs.frm.ext⟩)
  | true =>
  rw [hmay, if_pos rfl] at hgc
  by_cases hin : id ∈ x.2.1
  · rw [if_pos hin] at hgc
    have hins : insT x.2.1 id = x.2.1 := by unfold insT; rw [if_pos hin]
    have hwC : hM x.2.1 id = 0 := by unfold hM; rw [if_pos hTy, if_pos hmay, hins, if_neg (by omega)]
    have hwL : gG x.2.1 id = x.2.1 := by unfold gG; rw [if_pos hwC, hins]
    have e2 : gon N ((p : Int) + 1) id true = (p : Int) + 1 := by unfold gon; rw [if_pos hgc, if_pos (by rw [hst, decide_eq_true hin])]
    have e3 : goL N ((p : Int) + 1) id true = N := by unfold goL; rw [if_pos hgc, if_pos (by rw [hst, decide_eq_true hin])]
    have heq : decide (x.2.1 = x.2.1) = true := decide_eq_true rfl
    rw [hgc, e2, e3]
    repeat' (first | ((apply aV 46; refine JL_o (by exact aB en46 rfl (dK _ (some ⟨b0, o0, none⟩) a2 n c n2 c2 N E (h.st hs) (hE0.st hs) hn2 hz)) rfl rfl ?_; rintro _ _ ⟨rfl, hE⟩; rw [he]; have hs := hs.ext hE; (try simp only [zcc] at hs))) | ((apply aV 105; refine JL_o (by exact aB eT rfl (is_r _ (some ⟨b0, o0, none⟩) a2 n c n2 c2 N ((p : Int) + 1) (h.st hs) hx0)) rfl rfl ?_; rintro _ _ ⟨rfl, hE⟩; rw [hi]; have hs := hs.ext hE; (try simp only [zcc] at hs))) | ((apply aK (t := 43); refine JL_o (cH rfl rfl (Ret.value (cap := #[]) en45 (lF _ r0.2.1.1 r0.2.1.2.1 r0.2.1.2.2 x.2.1 id (mT.st hs) hid))) rfl rfl ?_; rintro _ _ ⟨aw, rfl, hf⟩; rw [hwL] at hf; rw [hwC, hwL]; have hs := hs.fresh hf; (try simp only [zcc] at hs))) | ((apply aV 43; refine JL_o (by exact aB en43 rfl (eY _ aw r0.2.1.1 x.2.1.length x.2.1.length r0.2.1.2.1 r0.2.1.2.2 x.2.1 x.2.1 (slU hs zmm (mL mT)) (mT.st hs))) rfl rfl ?_; rintro _ _ ⟨rfl, hE⟩; rw [heq]; have hs := hs.ext hE; (try simp only [zcc] at hs))) | ((apply aV 107; refine JL_o (by exact aB yK rfl (rO _ (some ⟨b0, o0, none⟩) a2 n c n2 c2 N E (h.st hs) (hE0.st hs) (by omega) hn2 hz (jG hcE))) rfl rfl ?_; rintro _ _ ⟨qs, rs', a', a2', ⟨hqm, hqo⟩, rfl, hf⟩; have hs := hs.fresh hf; (try simp only [zcc] at hs))) | (apply aS) | ((apply aJ); (first | (apply aW; first | exact aX hs rfl rfl aA | exact aI hs rfl aA | exact cD (i := ((p : Int) + 1 - 1).toNat) (j := 1) (hr.st hs) hr0' rfl rfl rfl aA) | (apply aQ; exact aH rfl aA) | (apply aF; exact aC rfl aA) | (apply aR; first | exact aM rfl rfl aA | exact bL rfl rfl aA) | (apply eD; exact dH rfl rfl (by omega) aA) | (apply aL; exact aN rfl rfl rfl aA) | (apply cE; exact cF rfl aA) | (apply bR; exact bM rfl rfl aA) | (apply aP; exact aO rfl rfl (by omega) (by omega) aA)); first | (exact rfl; exact rfl) | exact rfl) | (apply bC) | (apply aG) | (apply bJ) | (apply aK (t := 5); refine JL_o (by apply bZ; exact bH hs rfl) rfl rfl ?_; rintro _ _ ⟨b5, rfl, hb5, hs, hE⟩) | (apply aK (t := 7); refine JL_o (by apply bZ; exact bH hs rfl) rfl rfl ?_; rintro _ _ ⟨b7, rfl, hb7, hs, hE⟩) | (apply aK (t := 10); refine JL_o (by apply bB; exact aU hs) rfl rfl ?_; rintro _ _ ⟨b10, rfl, hb10, hs, hE⟩) | (apply bG; refine JL_u (by apply bA; exact aY hs rfl rfl rfl) rfl ?_; rintro _ _ ⟨hs, hF⟩) | (apply aT; first | refine bN rfl ob ?_ | refine bY rfl gb ?_ | refine bT rfl gb ?_))
    refine aZ Tryz.func100 rfl (.agg' hs rfl rfl (.tmp rfl (.tmp rfl .nil))) (.inr ⟨rfl, a', n, n, a2', n2, n2, rfl, by omega, qs, E, rs', ⟨hqm, hqo⟩, ⟨hcE, hA⟩, ⟨hl, hl2, hn2⟩, hs.out (by simp)⟩)
  rw [if_neg hin] at hgc
  by_cases h12 : x.2.1.length = 12
  · rw [if_pos h12] at hgc
    have hwC : hM x.2.1 id = 6 := by unfold hM; rw [if_pos hTy, if_pos hmay, if_pos (by rw [oB hTr, nI hin]; omega)]
    have hwL : gG x.2.1 id = [] := by unfold gG; rw [hwC]; rfl
    rw [hgc]
    repeat' (first | ((apply aV 46; refine JL_o (by exact aB en46 rfl (dK _ (some ⟨b0, o0, none⟩) a2 n c n2 c2 N E (h.st hs) (hE0.st hs) hn2 hz)) rfl rfl ?_; rintro _ _ ⟨rfl, hE⟩; rw [he]; have hs := hs.ext hE; (try simp only [zcc] at hs))) | ((apply aV 105; refine JL_o (by exact aB eT rfl (is_r _ (some ⟨b0, o0, none⟩) a2 n c n2 c2 N ((p : Int) + 1) (h.st hs) hx0)) rfl rfl ?_; rintro _ _ ⟨rfl, hE⟩; rw [hi]; have hs := hs.ext hE; (try simp only [zcc] at hs))) | ((apply aK (t := 43); refine JL_o (cH rfl rfl (Ret.value (cap := #[]) en45 (lF _ r0.2.1.1 r0.2.1.2.1 r0.2.1.2.2 x.2.1 id (mT.st hs) hid))) rfl rfl ?_; rintro _ _ ⟨aw, rfl, hf⟩; rw [hwL] at hf; rw [hwC, hwL]; have hs := hs.fresh hf; (try simp only [zcc] at hs))) | (apply aS) | ((apply aJ); (first | (apply aW; first | exact aX hs rfl rfl aA | exact aI hs rfl aA | exact cD (i := ((p : Int) + 1 - 1).toNat) (j := 1) (hr.st hs) hr0' rfl rfl rfl aA) | (apply aQ; exact aH rfl aA) | (apply aF; exact aC rfl aA) | (apply aR; first | exact aM rfl rfl aA | exact bL rfl rfl aA) | (apply eD; exact dH rfl rfl (by omega) aA) | (apply aL; exact aN rfl rfl rfl aA) | (apply cE; exact cF rfl aA) | (apply bR; exact bM rfl rfl aA) | (apply aP; exact aO rfl rfl (by omega) (by omega) aA) | (apply cX; exact cL rfl (by (simp only [bld, cQ, bQ, Value.cells, List.take_succ_cons, List.take_zero, List.drop_succ_cons, List.drop_zero, List.cons_append, List.nil_append, List.length_cons, List.length_nil, List.getElem?_cons_zero, List.getElem?_cons_succ, Option.map_some, List.append_nil, Nat.reduceAdd, Nat.reduceMul, Nat.zero_add, Nat.reduceLeDiff, and_self, if_true, List.toList_toArray, Nat.le_refl, Nat.zero_mul, Nat.one_mul]; first | done | rfl)) aA)); first | (exact rfl; exact rfl) | exact rfl) | (apply bC) | (apply aG) | (apply bJ) | (apply aK (t := 5); refine JL_o (by apply bZ; exact bH hs rfl) rfl rfl ?_; rintro _ _ ⟨b5, rfl, hb5, hs, hE⟩) | (apply aK (t := 7); refine JL_o (by apply bZ; exact bH hs rfl) rfl rfl ?_; rintro _ _ ⟨b7, rfl, hb7, hs, hE⟩) | (apply aK (t := 10); refine JL_o (by apply bB; exact aU hs) rfl rfl ?_; rintro _ _ ⟨b10, rfl, hb10, hs, hE⟩) | (apply bG; refine JL_u (by apply bA; exact aY hs rfl rfl rfl) rfl ?_; rintro _ _ ⟨hs, hF⟩) | (apply aT; first | refine bI rfl ob ?_ | refine bN rfl ob ?_ | refine bT rfl gb ?_))
    refine aZ Tryz.func100 rfl (.agg' hs rfl rfl (.tmp rfl (.tmp rfl .nil))) (.inl ⟨by decide, rfl, hs.frm.ext⟩)
  rw [if_neg h12] at hgc
  obtain ⟨ZL, hZL⟩ : ∃ z, z = wiT x.2.1 id := ⟨_, rfl⟩
  have hwC : hM x.2.1 id = 0 := by unfold hM; rw [if_pos hTy, if_pos hmay, if_neg (by rw [oB hTr, nI hin]; omega)]
  have hwL : gG x.2.1 id = ZL := by unfold gG; rw [if_pos hwC, oB hTr, hZL]
  have hZo : ∀ u ∈ ZL, okId u := by rw [hZL]; exact (fun u hu => (wiT_mem.1 hu).elim (fun e => e ▸ hid) (fun e => mL mT u e))
  have hZl : ZL.length ≤ 1000000 := by rw [hZL, nI hin]; omega
  have hne0 : ZL ≠ x.2.1 := fun e => hin (by rw [← e, hZL]; exact wiT_mem.2 (.inl rfl))
  have hsf : mU N ((p : Int) + 1) id true = false := by rw [hst, decide_eq_false hin]
  rw [← hZL] at hgc
  have hzeq : decide (ZL = x.2.1) = false := decide_eq_false hne0
  obtain ⟨oc, hoc⟩ : ∃ e, ofC N ZL = e := ⟨_, rfl⟩
  by_cases ho0 : oc ≠ 0
  · rw [hgc, hoc]
    repeat' (first | ((apply aV 46; refine JL_o (by exact aB en46 rfl (dK _ (some ⟨b0, o0, none⟩) a2 n c n2 c2 N E (h.st hs) (hE0.st hs) hn2 hz)) rfl rfl ?_; rintro _ _ ⟨rfl, hE⟩; rw [he]; have hs := hs.ext hE; (try simp only [zcc] at hs))) | ((apply aV 105; refine JL_o (by exact aB eT rfl (is_r _ (some ⟨b0, o0, none⟩) a2 n c n2 c2 N ((p : Int) + 1) (h.st hs) hx0)) rfl rfl ?_; rintro _ _ ⟨rfl, hE⟩; rw [hi]; have hs := hs.ext hE; (try simp only [zcc] at hs))) | ((apply aK (t := 43); refine JL_o (cH rfl rfl (Ret.value (cap := #[]) en45 (lF _ r0.2.1.1 r0.2.1.2.1 r0.2.1.2.2 x.2.1 id (mT.st hs) hid))) rfl rfl ?_; rintro _ _ ⟨aw, rfl, hf⟩; rw [hwL] at hf; rw [hwC, hwL]; have hs := hs.fresh hf; (try simp only [zcc] at hs))) | ((apply aV 43; refine JL_o (by exact aB en43 rfl (eY _ aw r0.2.1.1 ZL.length ZL.length r0.2.1.2.1 r0.2.1.2.2 ZL x.2.1 (slU hs zmm hZo) (mT.st hs))) rfl rfl ?_; rintro _ _ ⟨rfl, hE⟩; rw [hzeq]; have hs := hs.ext hE; (try simp only [zcc] at hs))) | ((apply aV 99; refine JL_o (by exact aB en99 rfl (tB _ (some ⟨b0, o0, none⟩) a2 aw n c n2 c2 ZL.length ZL.length N E ZL (h.st hs) (hE0.st hs) (slU hs zmm hZo) hn hn2 hz hc (by rw [hoc]; exact ho0))) rfl rfl ?_; rintro _ _ ⟨rfl, hE⟩; rw [hoc]; have hs := hs.ext hE; (try simp only [zcc] at hs))) | (apply aS) | ((apply aJ); (first | (apply aW; first | exact aX hs rfl rfl aA | exact aI hs rfl aA | exact cD (i := ((p : Int) + 1 - 1).toNat) (j := 1) (hr.st hs) hr0' rfl rfl rfl aA) | (apply aQ; exact aH rfl aA) | (apply aF; exact aC rfl aA) | (apply aR; first | exact aM rfl rfl aA | exact bL rfl rfl aA) | (apply eD; exact dH rfl rfl (by omega) aA) | (apply aL; exact aN rfl rfl rfl aA) | (apply cE; exact cF rfl aA) | (apply bR; exact bM rfl rfl aA) | (apply aP; exact aO rfl rfl (by omega) (by omega) aA) | (apply cX; exact cL rfl (by (simp only [bld, cQ, bQ, Value.cells, List.take_succ_cons, List.take_zero, List.drop_succ_cons, List.drop_zero, List.cons_append, List.nil_append, List.length_cons, List.length_nil, List.getElem?_cons_zero, List.getElem?_cons_succ, Option.map_some, List.append_nil, Nat.reduceAdd, Nat.reduceMul, Nat.zero_add, Nat.reduceLeDiff, and_self, if_true, List.toList_toArray, Nat.le_refl, Nat.zero_mul, Nat.one_mul]; first | done | rfl)) aA)); first | (exact rfl; exact rfl) | exact rfl) | (apply bC) | (apply aG) | (apply bJ) | (apply aK (t := 5); refine JL_o (by apply bZ; exact bH hs rfl) rfl rfl ?_; rintro _ _ ⟨b5, rfl, hb5, hs, hE⟩) | (apply aK (t := 7); refine JL_o (by apply bZ; exact bH hs rfl) rfl rfl ?_; rintro _ _ ⟨b7, rfl, hb7, hs, hE⟩) | (apply aK (t := 10); refine JL_o (by apply bB; exact aU hs) rfl rfl ?_; rintro _ _ ⟨b10, rfl, hb10, hs, hE⟩) | (apply bG; refine JL_u (by apply bA; exact aY hs rfl rfl rfl) rfl ?_; rintro _ _ ⟨hs, hF⟩) | (apply aT; first | refine bI rfl ob ?_ | refine bN rfl ob ?_ | refine bT rfl gb ?_))
    refine aZ Tryz.func100 rfl (.agg' hs rfl rfl (.tmp rfl (.tmp rfl .nil))) (.inl ⟨ho0, rfl, hs.frm.ext⟩)
  have hgz0 : ofC N ZL = 0 := by rw [hoc]; exact Decidable.not_not.1 ho0
  have hgz : goC N ((p : Int) + 1) id true = 0 := by rw [hgc, hgz0]
  obtain ⟨p2, q, x2, y, hg⟩ : ∃ (p2 q : Nat) (x2 y : NM), Gone N ((p : Int) + 1) id true p2 q x2 y := by
    rcases qD g hgz with ⟨h1, _⟩ | ⟨_, h1⟩
    · rw [hsf] at h1; cases h1
    · exact h1
  have hpp : p2 = p := by have := hg.np; omega
  rw [hpp] at hg
  have hxx : x2 = x := by have := hg.hx; rw [hxp] at this; exact (Option.some.inj this).symm
  rw [hxx] at hg
  clear hpp hxx
  obtain ⟨eL, eN⟩ := hg.goL hgz hsf
  obtain ⟨hlh, gL, hentL⟩ := hg.facts g
  have hof : ofL N (iR true x.2.1 id) = ofL N ZL := by rw [hZL]; rfl
  have hofn : ofn N ZL = q + 1 := by rw [← hg.hq, hZL]; rfl
  have hp1 : (ofL N ZL)[p]? = some x := by rw [← hof]; exact hg.hp'
  have hq1 : (ofL N ZL)[q]? = some y := by rw [← hof]; exact hg.hy
  have g1 : GR (ofL N ZL) := by rw [← hof]; exact hg.gr
  rw [hof] at eL hentL
  have hz1 := szN_of (t := ZL) hz hZl
  obtain ⟨_, zx2, zx3⟩ := hz1 x (List.mem_of_getElem? hp1)
  obtain ⟨_, zy2, zy3⟩ := hz1 y (List.mem_of_getElem? hq1)
  have hpl1 := (List.getElem?_eq_some_iff.1 hp1).1
  have hql1 := (List.getElem?_eq_some_iff.1 hq1).1
  have hne : p ≠ q := hlh
  have hlk := uJ (N := ofL N ZL) (lo := p) (hi := q) (id := id) (a := y) (b := x) hq1 hp1
  rw [hgz, eN, eL]
  rw [show gU (ofL N ZL) (loP true p q) (hiP true p q) id = gU (ofL N ZL) p q id from rfl] at hentL ⊢
  have ip : ((p : Int) + 1 - 1).toNat = p := by omega
  have iq : ((q : Int) + 1 - 1).toNat = q := by omega
  have htq : inK .i64 ((q : Int) + 1) := (okT_of hid (by have := xN N ZL; omega)).2
  have htp : inK .i64 ((p : Int) + 1) := hx0
  have rz1 := g1.rise p x hp1
  have rz2 := g1.rise q y hq1
  have sm1 : ∀ s ∈ x.2.2.1, s.1 = id → s = (id, (q : Int) + 1) := fun s hs e => pS g1 (g1.plus p x hp1 s hs) hq1 hg.yu hg.yt e
  have sm2 : ∀ s ∈ y.2.2.2, s.1 = id → s = (id, (p : Int) + 1) := fun s hs e => pS g1 (g1.less q y hq1 s hs) hp1 hg.xu (by rw [hg.yt]; exact (out_wi hTr hin).symm) e
  repeat' (first | ((apply aV 46; refine JL_o (by exact aB en46 rfl (dK _ (some ⟨b0, o0, none⟩) a2 n c n2 c2 N E (h.st hs) (hE0.st hs) hn2 hz)) rfl rfl ?_; rintro _ _ ⟨rfl, hE⟩; rw [he]; have hs := hs.ext hE; (try simp only [zcc] at hs))) | ((apply aV 105; refine JL_o (by exact aB eT rfl (is_r _ (some ⟨b0, o0, none⟩) a2 n c n2 c2 N ((p : Int) + 1) (h.st hs) hx0)) rfl rfl ?_; rintro _ _ ⟨rfl, hE⟩; rw [hi]; have hs := hs.ext hE; (try simp only [zcc] at hs))) | ((apply aK (t := 43); refine JL_o (cH rfl rfl (Ret.value (cap := #[]) en45 (lF _ r0.2.1.1 r0.2.1.2.1 r0.2.1.2.2 x.2.1 id (mT.st hs) hid))) rfl rfl ?_; rintro _ _ ⟨aw, rfl, hf⟩; rw [hwL] at hf; rw [hwC, hwL]; have hs := hs.fresh hf; (try simp only [zcc] at hs))) | ((apply aV 43; refine JL_o (by exact aB en43 rfl (eY _ aw r0.2.1.1 ZL.length ZL.length r0.2.1.2.1 r0.2.1.2.2 ZL x.2.1 (slU hs zmm hZo) (mT.st hs))) rfl rfl ?_; rintro _ _ ⟨rfl, hE⟩; rw [hzeq]; have hs := hs.ext hE; (try simp only [zcc] at hs))) | ((apply aV 99; refine JL_o (by exact aB en99 rfl (yC _ (some ⟨b0, o0, none⟩) a2 aw n c n2 c2 ZL.length ZL.length N E ZL (h.st hs) (hE0.st hs) (slU hs zmm hZo) hn hn2 hz hc hgz0)) rfl rfl ?_; rintro _ _ ⟨a', m', c', a2', m2, c2', rfl, hm', qs, es, rs', ⟨hqm, hqo⟩, ⟨hce, hAe⟩, ⟨hNl, hel, hm2⟩, hf⟩; rw [hofn]; rw [show (((q + 1 : Nat)) : Int) = (q : Int) + 1 from rfl]; have hs := hs.fresh hf; simp only [zcc] at hs; obtain ⟨b, o, rfl⟩ := (hs.row a' m' c').some (by omega); obtain ⟨qp, hqp, hqpm⟩ := pA hqm hp1; obtain ⟨qq, hqq, hqqm⟩ := pA hqm hq1; (try simp only [zcc] at hs))) | ((apply aK (t := 84); have hs1 : St w NoF _ (OwnN qs :: TabN (some ⟨b, o, none⟩) m' c' (qs.map rawN) :: [_, _, _, _, _]) := hs.sel [1, 0, 2, 3, 5, 6, 7] (by decide); refine JL_o (cH rfl rfl (Ret.value (cap := #[ptr b7]) en170 (xX w NoF _ _ b o m' c' ((p : Int) + 1 - 1).toNat p qs qp x id ((q : Int) + 1) b7 ip hs1 zmm hqp hqpm (hqo _ (List.mem_of_getElem? hqp)) hid htq rz1.1 sm1 zx2))) rfl rfl ?_; rintro _ _ ⟨qn1, ⟨hn1, ho1⟩, hs⟩; have hqq1 : (qs.set p qn1)[q]? = some qq := (by rw [List.getElem?_set_ne (fun e => hne (by first | exact e | exact e.symm))]; exact hqq))) | ((apply aK (t := 90); refine JL_o (cH rfl rfl (Ret.value (cap := #[ptr b7]) en170 (xY w NoF _ _ b o m' c' ((q : Int) + 1 - 1).toNat q (qs.set p qn1) qq y id ((p : Int) + 1) b7 iq hs zmm hqq1 hqqm (hqo _ (List.mem_of_getElem? hqq)) hid htp rz2.2 sm2 zy3))) rfl rfl ?_; rintro _ _ ⟨qn2, ⟨hn2, ho2⟩, hs⟩)) | (apply aS) | ((first | (apply aJ) | (apply JX_f; exact rfl; intro W X hs)); (first | (apply aW; first | exact aX hs rfl rfl aA | exact aI hs rfl aA | exact cD (i := ((p : Int) + 1 - 1).toNat) (j := 1) (hr.st hs) hr0' rfl rfl rfl aA) | (apply aQ; exact aH rfl aA) | (apply aF; exact aC rfl aA) | (apply aR; first | exact aM rfl rfl aA | exact bL rfl rfl aA) | (apply eD; exact dH rfl rfl (by omega) aA) | (apply aL; exact aN rfl rfl rfl aA) | (apply cE; exact cF rfl aA) | (apply iM; exact gX rfl aA) | (apply bR; exact bM rfl rfl aA) | (apply eS; exact gQ rfl aA) | (apply aP; exact aO rfl rfl (by omega) (by omega) aA)); first | (exact rfl; exact rfl) | exact rfl) | (apply bC) | (apply aG) | (apply bJ) | (apply aK (t := 5); refine JL_o (by apply bZ; exact bH hs rfl) rfl rfl ?_; rintro _ _ ⟨b5, rfl, hb5, hs, hE⟩) | (apply aK (t := 7); refine JL_o (by apply bZ; exact bH hs rfl) rfl rfl ?_; rintro _ _ ⟨b7, rfl, hb7, hs, hE⟩) | (apply aK (t := 10); refine JL_o (by apply bB; exact aU hs) rfl rfl ?_; rintro _ _ ⟨b10, rfl, hb10, hs, hE⟩) | (apply bG; refine JL_u (by apply bA; exact aY hs rfl rfl rfl) rfl ?_; rintro _ _ ⟨hs, hF⟩) | (apply aT; first | refine bN rfl ob ?_ | refine bY rfl gb ?_ | refine bT rfl gb ?_) | (apply cW; (refine dC (id := 16) [0, 1, 0, 4, 15, 0, 32, 0, 128, 480, 31, 2047] [(0, 0), (1, 0), (2, 0), (3, 0), (4, 0), (5, 0), (6, 0), (7, 0), (8, 0), (9, 0), (10, 0), (11, 0)] [] hs eJ (by kernel_rfl) (by kernel_rfl) (by kernel_rfl) (by kernel_rfl) (by kernel_rfl) ?_)) | (refine cV (fun W hs => ?_)) | (apply dI))
  have hmean : ((qs.set p qn1).set q qn2).map gK = gU (ofL N ZL) p q id := by
    rw [List.map_set, List.map_set, hqm, hn1, hn2, hlk]; exact List.set_comm _ _ (fun e => hne e)
  refine aZ Tryz.func100 rfl (.agg' hs rfl rfl (.tmp rfl (.tmp rfl .nil))) (.inr ⟨rfl, some ⟨b, o, none⟩, m', c', a2', m2, c2', rfl, hm', (qs.set p qn1).set q qn2, es, rs', ⟨hmean, iV (iV hqo ho1) ho2⟩, ⟨hce, hAe.trans hentL.symm⟩, ⟨(nX _ _ _ _).trans hNl, hel, hm2⟩, (hs.sel [1, 0, 2, 3] (by decide)).out (List.Sublist.refl _)⟩)
theorem yB (w : World) (a a2 : Option Addr) (n c n2 c2 : Nat) (N : List NM) (E : List Ent) (X0 id : Int) (h : Sl iL All w a n c N) (hE0 : Sl dEnt All w a2 n2 c2 E) (hn : n ≤ 900000) (hn2 : n2 ≤ 1048576) (hz : szN N) (hx0 : inK .i64 X0) (hid : okId id) :
    Ret Tryz.prog 100 #[.agg #[.slice a n c, .slice a2 n2 c2], .int .i64 X0, .int .u64 id, .bool false, .func (.func 101) #[] #[]] w fun v w' =>
      (goE N E X0 id false ≠ 0 ∧ v = .tuple #[.agg #[.slice none 0 0, .slice none 0 0], .int .i64 0, .int .i64 (goE N E X0 id false)] ∧ Ext w w') ∨
      (goE N E X0 id false = 0 ∧ ∃ a' m' c' a2' m2 c2', v = .tuple #[.agg #[.slice a' m' c', .slice a2' m2 c2'], .int .i64 (gon N X0 id false), .int .i64 0] ∧ m' ≤ n + 1 ∧ GOut w w' (goL N X0 id false) a' m' c' a2' m2 c2') := by
  refine cG (l := [_, _, _, _, _]) Tryz.func100 rfl Tryz.ntmps100 (by simp) ?_
  have hs := St.init w
  have hl := h.len
  have hl2 := hE0.len
  obtain ⟨rs, hr, hm⟩ := Sl.raw (D := mV) h
  cases hc : eC N E with
  | false =>
    have he := gN hc
    have eE : goE N E X0 id false = 220 := by unfold goE; rw [hc]; rfl
    rw [eE]
    repeat' (first | ((apply aV 46; refine JL_o (by exact aB en46 rfl (dK _ a a2 n c n2 c2 N E (h.st hs) (hE0.st hs) hn2 hz)) rfl rfl ?_; rintro _ _ ⟨rfl, hE⟩; rw [he]; have hs := hs.ext hE; (try simp only [zcc] at hs))) | (apply aS) | ((apply aJ); (first | (apply aW; first | exact aX hs rfl rfl aA | exact aI hs rfl aA) | (apply aQ; exact aH rfl aA) | (apply aF; exact aC rfl aA) | (apply aL; exact aN rfl rfl rfl aA) | (apply cX; exact cL rfl (by (simp only [bld, cQ, bQ, Value.cells, List.take_succ_cons, List.take_zero, List.drop_succ_cons, List.drop_zero, List.cons_append, List.nil_append, List.length_cons, List.length_nil, List.getElem?_cons_zero, List.getElem?_cons_succ, Option.map_some, List.append_nil, Nat.reduceAdd, Nat.reduceMul, Nat.zero_add, Nat.reduceLeDiff, and_self, if_true, List.toList_toArray, Nat.le_refl, Nat.zero_mul, Nat.one_mul]; first | done | rfl)) aA)); first | (exact rfl; exact rfl) | exact rfl) | (apply bC) | (apply aG) | (apply aK (t := 5); refine JL_o (by apply bZ; exact bH hs rfl) rfl rfl ?_; rintro _ _ ⟨b5, rfl, hb5, hs, hE⟩) | (apply aK (t := 7); refine JL_o (by apply bZ; exact bH hs rfl) rfl rfl ?_; rintro _ _ ⟨b7, rfl, hb7, hs, hE⟩) | (apply aK (t := 10); refine JL_o (by apply bB; exact aU hs) rfl rfl ?_; rintro _ _ ⟨b10, rfl, hb10, hs, hE⟩) | (apply bG; refine JL_u (by apply bA; exact aY hs rfl rfl rfl) rfl ?_; rintro _ _ ⟨hs, hF⟩) | (apply aT; refine bI rfl ob ?_))
    refine aZ Tryz.func100 rfl (.agg' hs rfl rfl (.tmp rfl (.tmp rfl .nil))) (.inl ⟨by decide, rfl, hs.frm.ext⟩)
  | true =>
  have he := jC hc
  obtain ⟨g, hcE, hA⟩ := check_iff.1 hc
  have eE : goE N E X0 id false = goC N X0 id false := by unfold goE; rw [hc]; rfl
  rw [eE]
  cases hi : isM N X0 with
  | false =>
    have e1 : goC N X0 id false = 2 := by unfold goC; rw [hi]; rfl
    rw [e1]
    repeat' (first | ((apply aV 46; refine JL_o (by exact aB en46 rfl (dK _ a a2 n c n2 c2 N E (h.st hs) (hE0.st hs) hn2 hz)) rfl rfl ?_; rintro _ _ ⟨rfl, hE⟩; rw [he]; have hs := hs.ext hE; (try simp only [zcc] at hs))) | ((apply aV 105; refine JL_o (by exact aB eT rfl (is_r _ a a2 n c n2 c2 N X0 (h.st hs) hx0)) rfl rfl ?_; rintro _ _ ⟨rfl, hE⟩; rw [hi]; have hs := hs.ext hE; (try simp only [zcc] at hs))) | (apply aS) | ((apply aJ); (first | (apply aW; first | exact aX hs rfl rfl aA | exact aI hs rfl aA) | (apply aQ; exact aH rfl aA) | (apply aF; exact aC rfl aA) | (apply aL; exact aN rfl rfl rfl aA) | (apply cE; exact cF rfl aA) | (apply cX; exact cL rfl (by (simp only [bld, cQ, bQ, Value.cells, List.take_succ_cons, List.take_zero, List.drop_succ_cons, List.drop_zero, List.cons_append, List.nil_append, List.length_cons, List.length_nil, List.getElem?_cons_zero, List.getElem?_cons_succ, Option.map_some, List.append_nil, Nat.reduceAdd, Nat.reduceMul, Nat.zero_add, Nat.reduceLeDiff, and_self, if_true, List.toList_toArray, Nat.le_refl, Nat.zero_mul, Nat.one_mul]; first | done | rfl)) aA)); first | (exact rfl; exact rfl) | exact rfl) | (apply bC) | (apply aG) | (apply bJ) | (apply aK (t := 5); refine JL_o (by apply bZ; exact bH hs rfl) rfl rfl ?_; rintro _ _ ⟨b5, rfl, hb5, hs, hE⟩) | (apply aK (t := 7); refine JL_o (by apply bZ; exact bH hs rfl) rfl rfl ?_; rintro _ _ ⟨b7, rfl, hb7, hs, hE⟩) | (apply aK (t := 10); refine JL_o (by apply bB; exact aU hs) rfl rfl ?_; rintro _ _ ⟨b10, rfl, hb10, hs, hE⟩) | (apply bG; refine JL_u (by apply bA; exact aY hs rfl rfl rfl) rfl ?_; rintro _ _ ⟨hs, hF⟩) | (apply aT; first | refine bN rfl ob ?_ | refine bY rfl gb ?_))
    refine aZ Tryz.func100 rfl (.agg' hs rfl rfl (.tmp rfl (.tmp rfl .nil))) (.inl ⟨by decide, rfl, hs.frm.ext⟩)
  | true =>
  obtain ⟨p, x, rfl, hxp, hxu⟩ := isM_true.1 hi
  have hpl := (List.getElem?_eq_some_iff.1 hxp).1
  have hnd : dS N ((p : Int) + 1) = x := dM hxp
  obtain ⟨r0, hr0, hrel0⟩ := hm.get hxp
  obtain ⟨u1, mT, u3, u4⟩ := wZ hrel0
  have mTl := mT.len
  have hTy := g.typ p x hxp hxu
  obtain ⟨hT12, hTr, _⟩ := typeB_iff.1 hTy
  have hr0' : rs[((p : Int) + 1 - 1).toNat]? = some r0 := by rw [show ((p : Int) + 1 - 1).toNat = p by omega]; exact hr0
  have hbx : 0 ≤ (p : Int) + 1 - 1 ∧ (p : Int) + 1 - 1 < n := by omega
  obtain ⟨b0, o0, rfl⟩ := hr.sl.addr (by omega)
  have hgc : goC N ((p : Int) + 1) id false = (if id ∈ x.2.1 then ofC N (outT x.2.1 id) else 4) := by unfold goC; rw [hi, if_pos rfl, hnd]; rfl
  have hst : mU N ((p : Int) + 1) id false = false := by unfold mU; rw [hnd]; rfl
  by_cases hin : id ∈ x.2.1
  rotate_left
  · rw [if_neg hin] at hgc
    have hwC : outC x.2.1 id = 4 := by unfold outC; rw [if_pos hTy, if_neg hin]
    have hwL : outL x.2.1 id = [] := by unfold outL; rw [hwC]; rfl
    rw [hgc]
    repeat' (first | ((apply aV 46; refine JL_o (by exact aB en46 rfl (dK _ (some ⟨b0, o0, none⟩) a2 n c n2 c2 N E (h.st hs) (hE0.st hs) hn2 hz)) rfl rfl ?_; rintro _ _ ⟨rfl, hE⟩; rw [he]; have hs := hs.ext hE; (try simp only [zcc] at hs))) | ((apply aV 105; refine JL_o (by exact aB eT rfl (is_r _ (some ⟨b0, o0, none⟩) a2 n c n2 c2 N ((p : Int) + 1) (h.st hs) hx0)) rfl rfl ?_; rintro _ _ ⟨rfl, hE⟩; rw [hi]; have hs := hs.ext hE; (try simp only [zcc] at hs))) | ((apply aK (t := 43); refine JL_o (cH rfl rfl (Ret.value (cap := #[]) tK (iF _ r0.2.1.1 r0.2.1.2.1 r0.2.1.2.2 x.2.1 id (mT.st hs)))) rfl rfl ?_; rintro _ _ ⟨aw, cw, rfl, hf⟩; rw [hwL] at hf; rw [hwC, hwL]; have hs := hs.fresh hf; (try simp only [zcc] at hs))) | (apply aS) | ((apply aJ); (first | (apply aW; first | exact aX hs rfl rfl aA | exact aI hs rfl aA | exact cD (i := ((p : Int) + 1 - 1).toNat) (j := 1) (hr.st hs) hr0' rfl rfl rfl aA) | (apply aQ; exact aH rfl aA) | (apply aF; exact aC rfl aA) | (apply aR; first | exact aM rfl rfl aA | exact bL rfl rfl aA) | (apply eD; exact dH rfl rfl (by omega) aA) | (apply aL; exact aN rfl rfl rfl aA) | (apply cE; exact cF rfl aA) | (apply bR; exact bM rfl rfl aA) | (apply aP; exact aO rfl rfl (by omega) (by omega) aA) | (apply cX; exact cL rfl (by (simp only [bld, cQ, bQ, Value.cells, List.take_succ_cons, List.take_zero, List.drop_succ_cons, List.drop_zero, List.cons_append, List.nil_append, List.length_cons, List.length_nil, List.getElem?_cons_zero, List.getElem?_cons_succ, Option.map_some, List.append_nil, Nat.reduceAdd, Nat.reduceMul, Nat.zero_add, Nat.reduceLeDiff, and_self, if_true, List.toList_toArray, Nat.le_refl, Nat.zero_mul, Nat.one_mul]; first | done | rfl)) aA)); first | (exact rfl; exact rfl) | exact rfl) | (apply bC) | (apply aG) | (apply bJ) | (apply aK (t := 5); refine JL_o (by apply bZ; exact bH hs rfl) rfl rfl ?_; rintro _ _ ⟨b5, rfl, hb5, hs, hE⟩) | (apply aK (t := 7); refine JL_o (by apply bZ; exact bH hs rfl) rfl rfl ?_; rintro _ _ ⟨b7, rfl, hb7, hs, hE⟩) | (apply aK (t := 10); refine JL_o (by apply bB; exact aU hs) rfl rfl ?_; rintro _ _ ⟨b10, rfl, hb10, hs, hE⟩) | (apply bG; refine JL_u (by apply bA; exact aY hs rfl rfl rfl) rfl ?_; rintro _ _ ⟨hs, hF⟩) | (apply aT; first | refine bI rfl ob ?_ | refine bN rfl ob ?_ | refine bT rfl gb ?_))
    refine aZ Tryz.func100 rfl (.agg' hs rfl rfl (.tmp rfl (.tmp rfl .nil))) (.inl ⟨by decide, rfl, hs.frm.ext⟩)
  rw [if_pos hin] at hgc
  obtain ⟨ZL, hZL⟩ : ∃ z, z = outT x.2.1 id := ⟨_, rfl⟩
  obtain ⟨hwC, hwL0⟩ := mO hTy hin
  have hwL : outL x.2.1 id = ZL := by rw [hwL0, hZL]
  have hZo : ∀ u ∈ ZL, okId u := by rw [hZL]; exact (fun u hu => mL mT u (outT_mem.1 hu).1)
  have hZl : ZL.length ≤ 1000000 := by rw [hZL]; have := outT_len x.2.1 id; omega
  have hne0 : ZL ≠ x.2.1 := fun e => by rw [← e, hZL, outT_mem] at hin; exact hin.2 rfl
  have hsf : mU N ((p : Int) + 1) id false = false := hst
  rw [← hZL] at hgc
  have hzeq : decide (ZL = x.2.1) = false := decide_eq_false hne0
  obtain ⟨oc, hoc⟩ : ∃ e, ofC N ZL = e := ⟨_, rfl⟩
  by_cases ho0 : oc ≠ 0
  · rw [hgc, hoc]
    repeat' (first | ((apply aV 46; refine JL_o (by exact aB en46 rfl (dK _ (some ⟨b0, o0, none⟩) a2 n c n2 c2 N E (h.st hs) (hE0.st hs) hn2 hz)) rfl rfl ?_; rintro _ _ ⟨rfl, hE⟩; rw [he]; have hs := hs.ext hE; (try simp only [zcc] at hs))) | ((apply aV 105; refine JL_o (by exact aB eT rfl (is_r _ (some ⟨b0, o0, none⟩) a2 n c n2 c2 N ((p : Int) + 1) (h.st hs) hx0)) rfl rfl ?_; rintro _ _ ⟨rfl, hE⟩; rw [hi]; have hs := hs.ext hE; (try simp only [zcc] at hs))) | ((apply aK (t := 43); refine JL_o (cH rfl rfl (Ret.value (cap := #[]) tK (iF _ r0.2.1.1 r0.2.1.2.1 r0.2.1.2.2 x.2.1 id (mT.st hs)))) rfl rfl ?_; rintro _ _ ⟨aw, cw, rfl, hf⟩; rw [hwL] at hf; rw [hwC, hwL]; have hs := hs.fresh hf; (try simp only [zcc] at hs))) | ((apply aV 43; refine JL_o (by exact aB en43 rfl (eY _ aw r0.2.1.1 ZL.length cw r0.2.1.2.1 r0.2.1.2.2 ZL x.2.1 (slU hs zmm hZo) (mT.st hs))) rfl rfl ?_; rintro _ _ ⟨rfl, hE⟩; rw [hzeq]; have hs := hs.ext hE; (try simp only [zcc] at hs))) | ((apply aV 99; refine JL_o (by exact aB en99 rfl (tB _ (some ⟨b0, o0, none⟩) a2 aw n c n2 c2 ZL.length cw N E ZL (h.st hs) (hE0.st hs) (slU hs zmm hZo) hn hn2 hz hc (by rw [hoc]; exact ho0))) rfl rfl ?_; rintro _ _ ⟨rfl, hE⟩; rw [hoc]; have hs := hs.ext hE; (try simp only [zcc] at hs))) | (apply aS) | ((apply aJ); (first | (apply aW; first | exact aX hs rfl rfl aA | exact aI hs rfl aA | exact cD (i := ((p : Int) + 1 - 1).toNat) (j := 1) (hr.st hs) hr0' rfl rfl rfl aA) | (apply aQ; exact aH rfl aA) | (apply aF; exact aC rfl aA) | (apply aR; first | exact aM rfl rfl aA | exact bL rfl rfl aA) | (apply eD; exact dH rfl rfl (by omega) aA) | (apply aL; exact aN rfl rfl rfl aA) | (apply cE; exact cF rfl aA) | (apply bR; exact bM rfl rfl aA) | (apply aP; exact aO rfl rfl (by omega) (by omega) aA) | (apply cX; exact cL rfl (by (simp only [bld, cQ, bQ, Value.cells, List.take_succ_cons, List.take_zero, List.drop_succ_cons, List.drop_zero, List.cons_append, List.nil_append, List.length_cons, List.length_nil, List.getElem?_cons_zero, List.getElem?_cons_succ, Option.map_some, List.append_nil, Nat.reduceAdd, Nat.reduceMul, Nat.zero_add, Nat.reduceLeDiff, and_self, if_true, List.toList_toArray, Nat.le_refl, Nat.zero_mul, Nat.one_mul]; first | done | rfl)) aA)); first | (exact rfl; exact rfl) | exact rfl) | (apply bC) | (apply aG) | (apply bJ) | (apply aK (t := 5); refine JL_o (by apply bZ; exact bH hs rfl) rfl rfl ?_; rintro _ _ ⟨b5, rfl, hb5, hs, hE⟩) | (apply aK (t := 7); refine JL_o (by apply bZ; exact bH hs rfl) rfl rfl ?_; rintro _ _ ⟨b7, rfl, hb7, hs, hE⟩) | (apply aK (t := 10); refine JL_o (by apply bB; exact aU hs) rfl rfl ?_; rintro _ _ ⟨b10, rfl, hb10, hs, hE⟩) | (apply bG; refine JL_u (by apply bA; exact aY hs rfl rfl rfl) rfl ?_; rintro _ _ ⟨hs, hF⟩) | (apply aT; first | refine bI rfl ob ?_ | refine bN rfl ob ?_ | refine bT rfl gb ?_))
    refine aZ Tryz.func100 rfl (.agg' hs rfl rfl (.tmp rfl (.tmp rfl .nil))) (.inl ⟨ho0, rfl, hs.frm.ext⟩)
  have hgz0 : ofC N ZL = 0 := by rw [hoc]; exact Decidable.not_not.1 ho0
  have hgz : goC N ((p : Int) + 1) id false = 0 := by rw [hgc, hgz0]
  obtain ⟨p2, q, x2, y, hg⟩ : ∃ (p2 q : Nat) (x2 y : NM), Gone N ((p : Int) + 1) id false p2 q x2 y := by
    rcases qD g hgz with ⟨h1, _⟩ | ⟨_, h1⟩
    · rw [hsf] at h1; cases h1
    · exact h1
  have hpp : p2 = p := by have := hg.np; omega
  rw [hpp] at hg
  have hxx : x2 = x := by have := hg.hx; rw [hxp] at this; exact (Option.some.inj this).symm
  rw [hxx] at hg
  clear hpp hxx
  obtain ⟨eL, eN⟩ := hg.goL hgz hsf
  obtain ⟨hlh, gL, hentL⟩ := hg.facts g
  have hof : ofL N (iR false x.2.1 id) = ofL N ZL := by rw [hZL]; rfl
  have hofn : ofn N ZL = q + 1 := by rw [← hg.hq, hZL]; rfl
  have hp1 : (ofL N ZL)[p]? = some x := by rw [← hof]; exact hg.hp'
  have hq1 : (ofL N ZL)[q]? = some y := by rw [← hof]; exact hg.hy
  have g1 : GR (ofL N ZL) := by rw [← hof]; exact hg.gr
  rw [hof] at eL hentL
  have hz1 := szN_of (t := ZL) hz hZl
  obtain ⟨_, zx2, zx3⟩ := hz1 x (List.mem_of_getElem? hp1)
  obtain ⟨_, zy2, zy3⟩ := hz1 y (List.mem_of_getElem? hq1)
  have hpl1 := (List.getElem?_eq_some_iff.1 hp1).1
  have hql1 := (List.getElem?_eq_some_iff.1 hq1).1
  have hne : q ≠ p := hlh
  have hlk := uJ (N := ofL N ZL) (lo := q) (hi := p) (id := id) (a := x) (b := y) hp1 hq1
  rw [hgz, eN, eL]
  rw [show gU (ofL N ZL) (loP false p q) (hiP false p q) id = gU (ofL N ZL) q p id from rfl] at hentL ⊢
  have ip : ((p : Int) + 1 - 1).toNat = p := by omega
  have iq : ((q : Int) + 1 - 1).toNat = q := by omega
  have htq : inK .i64 ((q : Int) + 1) := (okT_of hid (by have := xN N ZL; omega)).2
  have htp : inK .i64 ((p : Int) + 1) := hx0
  have rz1 := g1.rise p x hp1
  have rz2 := g1.rise q y hq1
  have sm1 : ∀ s ∈ x.2.2.2, s.1 = id → s = (id, (q : Int) + 1) := fun s hs e => pS g1 (g1.less p x hp1 s hs) hq1 hg.yu hg.yt e
  have sm2 : ∀ s ∈ y.2.2.1, s.1 = id → s = (id, (p : Int) + 1) := fun s hs e => pS g1 (g1.plus q y hq1 s hs) hp1 hg.xu (by rw [hg.yt]; exact (wi_out hTr hin).symm) e
  repeat' (first | ((apply aV 46; refine JL_o (by exact aB en46 rfl (dK _ (some ⟨b0, o0, none⟩) a2 n c n2 c2 N E (h.st hs) (hE0.st hs) hn2 hz)) rfl rfl ?_; rintro _ _ ⟨rfl, hE⟩; rw [he]; have hs := hs.ext hE; (try simp only [zcc] at hs))) | ((apply aV 105; refine JL_o (by exact aB eT rfl (is_r _ (some ⟨b0, o0, none⟩) a2 n c n2 c2 N ((p : Int) + 1) (h.st hs) hx0)) rfl rfl ?_; rintro _ _ ⟨rfl, hE⟩; rw [hi]; have hs := hs.ext hE; (try simp only [zcc] at hs))) | ((apply aK (t := 43); refine JL_o (cH rfl rfl (Ret.value (cap := #[]) tK (iF _ r0.2.1.1 r0.2.1.2.1 r0.2.1.2.2 x.2.1 id (mT.st hs)))) rfl rfl ?_; rintro _ _ ⟨aw, cw, rfl, hf⟩; rw [hwL] at hf; rw [hwC, hwL]; have hs := hs.fresh hf; (try simp only [zcc] at hs))) | ((apply aV 43; refine JL_o (by exact aB en43 rfl (eY _ aw r0.2.1.1 ZL.length cw r0.2.1.2.1 r0.2.1.2.2 ZL x.2.1 (slU hs zmm hZo) (mT.st hs))) rfl rfl ?_; rintro _ _ ⟨rfl, hE⟩; rw [hzeq]; have hs := hs.ext hE; (try simp only [zcc] at hs))) | ((apply aV 99; refine JL_o (by exact aB en99 rfl (yC _ (some ⟨b0, o0, none⟩) a2 aw n c n2 c2 ZL.length cw N E ZL (h.st hs) (hE0.st hs) (slU hs zmm hZo) hn hn2 hz hc hgz0)) rfl rfl ?_; rintro _ _ ⟨a', m', c', a2', m2, c2', rfl, hm', qs, es, rs', ⟨hqm, hqo⟩, ⟨hce, hAe⟩, ⟨hNl, hel, hm2⟩, hf⟩; rw [hofn]; rw [show (((q + 1 : Nat)) : Int) = (q : Int) + 1 from rfl]; have hs := hs.fresh hf; simp only [zcc] at hs; obtain ⟨b, o, rfl⟩ := (hs.row a' m' c').some (by omega); obtain ⟨qp, hqp, hqpm⟩ := pA hqm hp1; obtain ⟨qq, hqq, hqqm⟩ := pA hqm hq1; (try simp only [zcc] at hs))) | ((apply aK (t := 96); have hs1 : St w NoF _ (OwnN qs :: TabN (some ⟨b, o, none⟩) m' c' (qs.map rawN) :: [_, _, _, _, _]) := hs.sel [1, 0, 2, 3, 5, 6, 7] (by decide); refine JL_o (cH rfl rfl (Ret.value (cap := #[ptr b7]) en170 (xY w NoF _ _ b o m' c' ((p : Int) + 1 - 1).toNat p qs qp x id ((q : Int) + 1) b7 ip hs1 zmm hqp hqpm (hqo _ (List.mem_of_getElem? hqp)) hid htq rz1.2 sm1 zx3))) rfl rfl ?_; rintro _ _ ⟨qn1, ⟨hn1, ho1⟩, hs⟩; have hqq1 : (qs.set p qn1)[q]? = some qq := (by rw [List.getElem?_set_ne (fun e => hne (by first | exact e | exact e.symm))]; exact hqq))) | ((apply aK (t := 102); refine JL_o (cH rfl rfl (Ret.value (cap := #[ptr b7]) en170 (xX w NoF _ _ b o m' c' ((q : Int) + 1 - 1).toNat q (qs.set p qn1) qq y id ((p : Int) + 1) b7 iq hs zmm hqq1 hqqm (hqo _ (List.mem_of_getElem? hqq)) hid htp rz2.1 sm2 zy2))) rfl rfl ?_; rintro _ _ ⟨qn2, ⟨hn2, ho2⟩, hs⟩)) | (apply aS) | ((first | (apply aJ) | (apply JX_f; exact rfl; intro W X hs)); (first | (apply aW; first | exact aX hs rfl rfl aA | exact aI hs rfl aA | exact cD (i := ((p : Int) + 1 - 1).toNat) (j := 1) (hr.st hs) hr0' rfl rfl rfl aA) | (apply aQ; exact aH rfl aA) | (apply aF; exact aC rfl aA) | (apply aR; first | exact aM rfl rfl aA | exact bL rfl rfl aA) | (apply eD; exact dH rfl rfl (by omega) aA) | (apply aL; exact aN rfl rfl rfl aA) | (apply cE; exact cF rfl aA) | (apply iM; exact gX rfl aA) | (apply bR; exact bM rfl rfl aA) | (apply eS; exact gQ rfl aA) | (apply aP; exact aO rfl rfl (by omega) (by omega) aA)); first | (exact rfl; exact rfl) | exact rfl) | (apply bC) | (apply aG) | (apply bJ) | (apply aK (t := 5); refine JL_o (by apply bZ; exact bH hs rfl) rfl rfl ?_; rintro _ _ ⟨b5, rfl, hb5, hs, hE⟩) | (apply aK (t := 7); refine JL_o (by apply bZ; exact bH hs rfl) rfl rfl ?_; rintro _ _ ⟨b7, rfl, hb7, hs, hE⟩) | (apply aK (t := 10); refine JL_o (by apply bB; exact aU hs) rfl rfl ?_; rintro _ _ ⟨b10, rfl, hb10, hs, hE⟩) | (apply bG; refine JL_u (by apply bA; exact aY hs rfl rfl rfl) rfl ?_; rintro _ _ ⟨hs, hF⟩) | (apply aT; first | refine bN rfl ob ?_ | refine bT rfl gb ?_) | (apply cW; (refine dC (id := 16) [0, 1, 0, 4, 15, 0, 32, 0, 128, 480, 31, 2047] [(0, 0), (1, 0), (2, 0), (3, 0), (4, 0), (5, 0), (6, 0), (7, 0), (8, 0), (9, 0), (10, 0), (11, 0)] [] hs eJ (by kernel_rfl) (by kernel_rfl) (by kernel_rfl) (by kernel_rfl) (by kernel_rfl) ?_)) | (refine cV (fun W hs => ?_)) | (apply dI))
  have hmean : ((qs.set p qn1).set q qn2).map gK = gU (ofL N ZL) q p id := by
    rw [List.map_set, List.map_set, hqm, hn1, hn2, hlk]
  refine aZ Tryz.func100 rfl (.agg' hs rfl rfl (.tmp rfl (.tmp rfl .nil))) (.inr ⟨rfl, some ⟨b, o, none⟩, m', c', a2', m2, c2', rfl, hm', (qs.set p qn1).set q qn2, es, rs', ⟨hmean, iV (iV hqo ho1) ho2⟩, ⟨hce, hAe.trans hentL.symm⟩, ⟨(nX _ _ _ _).trans hNl, hel, hm2⟩, (hs.sel [1, 0, 2, 3] (by decide)).out (List.Sublist.refl _)⟩)
end Go.Eng
end
section
namespace Go.Eng
open Go.Proofs
set_option linter.unusedSimpArgs false
set_option linter.unusedVariables false
def drC (N : List NM) (n : Int) : Int := if isM N n && !decide (n = 1) then 0 else 2
def drL (N : List NM) (n : Int) : List NM := if drC N n = 0 then gB N (n - 1).toNat else []
def drE (N : List NM) (E : List Ent) (n : Int) : Int := if eC N E then drC N n else 220
def tN (P : Int) (x : NM) : NM := (x.1, x.2.1, eP x.2.2.1 P, eP x.2.2.2 P)
theorem away_map (N : List NM) (p : Nat) : (N.set p n0).map (tN ((p : Int) + 1)) = N.mapIdx (offN p) := by
  apply List.ext_getElem?
  intro i
  rw [List.getElem?_map, List.getElem?_mapIdx]
  by_cases e : i = p
  · subst e
    by_cases hl : i < N.length
    · rw [List.getElem?_set_self hl, List.getElem?_eq_getElem hl]
      show some (tN _ n0) = some (offN i i _)
      unfold offN
      rw [if_pos rfl]; rfl
    · rw [List.getElem?_eq_none (by rw [List.length_set]; omega), List.getElem?_eq_none (by omega)]; rfl
  · rw [List.getElem?_set_ne (by omega)]
    cases hx : N[i]? with
    | none => rfl
    | some x =>
      show some (tN _ x) = some (offN p i x)
      rw [fY e]; rfl
theorem St.cutN {w0 w : World} {F : Nat → Prop} {L : List HP} {qs : List QN} (m : Nat) (h : St w0 F w (OwnN qs :: L)) : St w0 F w (OwnN (qs.take m) :: L) := by
  have h2 : St w0 F w (qs.map rowN ++ L) := St.unstar h
  refine St.star (A := (qs.take m).map rowN) (h2.sub ?_)
  exact List.Sublist.append_right ((List.take_sublist m qs).map rowN) L
theorem rW {N : List NM} {E : List Ent} (h : eC N E = true) {p : Nat} {a : NM} (ha : N[p]? = some a) (hua : a.1 = true) {i : Nat} {e : Ent} (he : E[i]? = some e) (he1 : e.1 = 1) (het : e.2.1 = a.2.1) : allM (E.set i gone) = fC (gB N p) := by
  obtain ⟨g, hc, hA⟩ := check_iff.1 h
  have hem : e ∈ E.filter dY := List.mem_filter.2 ⟨List.mem_of_getElem? he, decide_eq_true he1⟩
  have hx : ((1, a.2.1, (p : Int) + 1) : Ent) ∈ E.filter dY := (fG E).mem_iff.1 (by rw [hA]; exact ents_mem.2 ⟨p, a, ha, hua, rfl⟩)
  have hee : e = (1, a.2.1, (p : Int) + 1) := mQ (eF hc) hem hx het
  have hp := tH he he1
  have hd : eA (e :: (E.set i gone).filter dY) := (hp.pairwise_iff (fun h => Ne.symm h)).1 (eF hc)
  have hne := (List.pairwise_cons.1 (eK hd)).1
  refine yZ (mF hc he he1) (oJ g.uniq) fun u => ?_
  rw [lR ha hua g.uniq, ← hee, ← hA, (fG E).mem_iff, hp.mem_iff, List.mem_cons]
  constructor
  · intro h; exact ⟨.inr h, fun e => hne u h e.symm⟩
  · rintro ⟨h1 | h1, h2⟩
    · exact absurd h1 h2
    · exact h1
theorem tL {N : List NM} {E : List Ent} (h : eC N E = true) {p : Nat} {a : NM} (ha : N[p]? = some a) (hua : a.1 = true) : rX E a.2.1 = 0 := by
  obtain ⟨g, hc, hA⟩ := check_iff.1 h
  have hx : ((1, a.2.1, (p : Int) + 1) : Ent) ∈ E.filter dY := (fG E).mem_iff.1 (by rw [hA]; exact ents_mem.2 ⟨p, a, ha, hua, rfl⟩)
  exact wB hc hx
theorem gone_len {E : List Ent} (i : Nat) : (E.set i gone).length = E.length := List.length_set
attribute [local irreducible] Hold J JL JD JX JXat JDH OpR OpG Ret RetV Is Blk Row
set_option maxRecDepth 100000
set_option maxHeartbeats 800000
theorem kT (w : World) (x : ST) (P : Int) (b3 : Nat) (hb3 : w.heap[b3]? = some (.cells #[.int .i64 P] 3 (0, 0))) : Ret Tryz.prog 108 (#[.agg (cT x).toArray] ++ #[ptr b3]) w fun v w' => v = .bool (decide (x.2 = P)) ∧ Ext w w' := by
  refine cG (l := [_, _]) Tryz.func108 rfl Tryz.ntmps108 (by simp) ?_
  have hs := St.init w
  repeat' (first | (apply aS) | ((apply aJ); (first | (apply aW; first | exact aX hs rfl rfl aA | exact bU (hs.old_cell (cN (off := 0) hb3 rfl)) rfl aA) | (apply aF; exact aC rfl aA) | (apply aR; exact aM rfl rfl aA) | (apply aL; exact aN rfl rfl rfl aA)); first | (exact rfl; exact rfl) | exact rfl) | (apply bC) | (apply aG) | (apply aK (t := 2); refine JL_o (by apply bZ; exact bH hs rfl) rfl rfl ?_; rintro _ _ ⟨b2, rfl, hb2, hs, hE⟩))
  refine aZ Tryz.func108 rfl (.tmp rfl .nil) ⟨rfl, hs.frm.ext⟩
-- WSPL 38 6 : [] [0, 1, 2]
theorem qE (w : World) (a a2 : Option Addr) (n c n2 c2 : Nat) (N : List NM) (E : List Ent) (X0 : Int) (h : Sl iL All w a n c N) (hE0 : Sl dEnt All w a2 n2 c2 E) (hn : n ≤ 900000) (hn2 : n2 ≤ 1048576) (hz : szN N) (hx0 : inK .i64 X0) :
    Ret Tryz.prog 38 #[.agg #[.slice a n c, .slice a2 n2 c2], .int .i64 X0] w fun v w' =>
      (drE N E X0 ≠ 0 ∧ v = .tuple #[.agg #[.slice none 0 0, .slice none 0 0], .int .i64 (drE N E X0)] ∧ Ext w w') ∨
      (drE N E X0 = 0 ∧ ∃ a' m' c' a2' m2 c2', v = .tuple #[.agg #[.slice a' m' c', .slice a2' m2 c2'], .int .i64 0] ∧ m' ≤ n ∧ GOut w w' (drL N X0) a' m' c' a2' m2 c2') := by
  refine cG (l := [_, _]) Tryz.func38 rfl Tryz.ntmps38 (by simp) ?_
  have hs := St.init w
  have hl := h.len
  have hl2 := hE0.len
  obtain ⟨rs, hr, hm⟩ := Sl.raw (D := mV) h
  cases hc : eC N E with
  | false =>
    have he := gN hc
    have eE : drE N E X0 = 220 := by unfold drE; rw [hc]; rfl
    rw [eE]
    repeat' (first | ((apply aV 46; refine JL_o (by exact aB en46 rfl (dK _ a a2 n c n2 c2 N E (h.st hs) (hE0.st hs) hn2 hz)) rfl rfl ?_; rintro _ _ ⟨rfl, hE⟩; rw [he]; have hs := hs.ext hE; (try simp only [zcc] at hs))) | (apply aS) | ((apply aJ); (first | (apply aW; first | exact aX hs rfl rfl aA | exact aI hs rfl aA) | (apply aQ; exact aH rfl aA) | (apply aF; exact aC rfl aA) | (apply aL; exact aN rfl rfl rfl aA) | (apply cX; exact cL rfl (by (simp only [bld, cQ, bQ, Value.cells, List.take_succ_cons, List.take_zero, List.drop_succ_cons, List.drop_zero, List.cons_append, List.nil_append, List.length_cons, List.length_nil, List.getElem?_cons_zero, List.getElem?_cons_succ, Option.map_some, List.append_nil, Nat.reduceAdd, Nat.reduceMul, Nat.zero_add, Nat.reduceLeDiff, and_self, if_true, List.toList_toArray, Nat.le_refl, Nat.zero_mul, Nat.one_mul]; first | done | rfl)) aA)); first | (exact rfl; exact rfl) | exact rfl) | (apply bC) | (apply aG) | (apply aK (t := 2); refine JL_o (by apply bZ; exact bH hs rfl) rfl rfl ?_; rintro _ _ ⟨b2, rfl, hb2, hs, hE⟩) | (apply aK (t := 3); refine JL_o (by apply bZ; exact bH hs rfl) rfl rfl ?_; rintro _ _ ⟨b3, rfl, hb3, hs, hE⟩) | (apply aK (t := 4); refine JL_o (by apply bB; exact aU hs) rfl rfl ?_; rintro _ _ ⟨b4, rfl, hb4, hs, hE⟩) | (apply bG; refine JL_u (by apply bA; exact aY hs rfl rfl rfl) rfl ?_; rintro _ _ ⟨hs, hF⟩) | (apply aT; refine bI rfl ob ?_))
    refine aZ Tryz.func38 rfl (.agg' hs rfl rfl (.tmp rfl .nil)) (.inl ⟨by decide, rfl, hs.frm.ext⟩)
  | true =>
  have he := jC hc
  obtain ⟨g, hcE, hA⟩ := check_iff.1 hc
  have eE : drE N E X0 = drC N X0 := by unfold drE; rw [hc]; rfl
  rw [eE]
  cases hi : isM N X0 with
  | false =>
    have e1 : drC N X0 = 2 := by unfold drC; rw [hi]; rfl
    rw [e1]
    repeat' (first | ((apply aV 46; refine JL_o (by exact aB en46 rfl (dK _ a a2 n c n2 c2 N E (h.st hs) (hE0.st hs) hn2 hz)) rfl rfl ?_; rintro _ _ ⟨rfl, hE⟩; rw [he]; have hs := hs.ext hE; (try simp only [zcc] at hs))) | ((apply aV 105; refine JL_o (by exact aB eT rfl (is_r _ a a2 n c n2 c2 N X0 (h.st hs) hx0)) rfl rfl ?_; rintro _ _ ⟨rfl, hE⟩; rw [hi]; have hs := hs.ext hE; (try simp only [zcc] at hs))) | (apply aS) | ((apply aJ); (first | (apply aW; first | exact aX hs rfl rfl aA | exact aI hs rfl aA) | (apply aQ; exact aH rfl aA) | (apply aF; exact aC rfl aA) | (apply aL; exact aN rfl rfl rfl aA) | (apply cE; exact cF rfl aA) | (apply cB; exact bS rfl gb rfl aA) | (apply cX; exact cL rfl (by (simp only [bld, cQ, bQ, Value.cells, List.take_succ_cons, List.take_zero, List.drop_succ_cons, List.drop_zero, List.cons_append, List.nil_append, List.length_cons, List.length_nil, List.getElem?_cons_zero, List.getElem?_cons_succ, Option.map_some, List.append_nil, Nat.reduceAdd, Nat.reduceMul, Nat.zero_add, Nat.reduceLeDiff, and_self, if_true, List.toList_toArray, Nat.le_refl, Nat.zero_mul, Nat.one_mul]; first | done | rfl)) aA)); first | (exact rfl; exact rfl) | exact rfl) | (apply bC) | (apply aG) | (apply bJ) | (apply aK (t := 2); refine JL_o (by apply bZ; exact bH hs rfl) rfl rfl ?_; rintro _ _ ⟨b2, rfl, hb2, hs, hE⟩) | (apply aK (t := 3); refine JL_o (by apply bZ; exact bH hs rfl) rfl rfl ?_; rintro _ _ ⟨b3, rfl, hb3, hs, hE⟩) | (apply aK (t := 4); refine JL_o (by apply bB; exact aU hs) rfl rfl ?_; rintro _ _ ⟨b4, rfl, hb4, hs, hE⟩) | (apply bG; refine JL_u (by apply bA; exact aY hs rfl rfl rfl) rfl ?_; rintro _ _ ⟨hs, hF⟩) | (apply cU; (refine fK rfl gb rfl ?_)) | (apply aT; first | refine bN rfl ob ?_ | refine bY rfl gb ?_))
    refine aZ Tryz.func38 rfl (.agg' hs rfl rfl (.tmp rfl .nil)) (.inl ⟨by decide, rfl, hs.frm.ext⟩)
  | true =>
  by_cases h1 : X0 = 1
  · have e1 : drC N X0 = 2 := by unfold drC; rw [hi, decide_eq_true h1]; rfl
    rw [e1]
    repeat' (first | ((apply aV 46; refine JL_o (by exact aB en46 rfl (dK _ a a2 n c n2 c2 N E (h.st hs) (hE0.st hs) hn2 hz)) rfl rfl ?_; rintro _ _ ⟨rfl, hE⟩; rw [he]; have hs := hs.ext hE; (try simp only [zcc] at hs))) | ((apply aV 105; refine JL_o (by exact aB eT rfl (is_r _ a a2 n c n2 c2 N X0 (h.st hs) hx0)) rfl rfl ?_; rintro _ _ ⟨rfl, hE⟩; rw [hi]; have hs := hs.ext hE; (try simp only [zcc] at hs))) | (apply aS) | ((first | (apply aJ) | (apply bW; exact rfl; exact gb)); (first | (apply aW; first | exact aX hs rfl rfl aA | exact aI hs rfl aA) | (apply aQ; exact aH rfl aA) | (apply aF; exact aC rfl aA) | (apply aL; exact aN rfl rfl rfl aA) | (apply cE; exact cF rfl aA) | (apply cB; exact bP rfl gb rfl aA) | (apply cX; exact cL rfl (by (simp only [bld, cQ, bQ, Value.cells, List.take_succ_cons, List.take_zero, List.drop_succ_cons, List.drop_zero, List.cons_append, List.nil_append, List.length_cons, List.length_nil, List.getElem?_cons_zero, List.getElem?_cons_succ, Option.map_some, List.append_nil, Nat.reduceAdd, Nat.reduceMul, Nat.zero_add, Nat.reduceLeDiff, and_self, if_true, List.toList_toArray, Nat.le_refl, Nat.zero_mul, Nat.one_mul]; first | done | rfl)) aA)); first | (exact rfl; exact rfl) | exact rfl) | (apply bC) | (apply aG) | (apply bJ) | (apply aK (t := 2); refine JL_o (by apply bZ; exact bH hs rfl) rfl rfl ?_; rintro _ _ ⟨b2, rfl, hb2, hs, hE⟩) | (apply aK (t := 3); refine JL_o (by apply bZ; exact bH hs rfl) rfl rfl ?_; rintro _ _ ⟨b3, rfl, hb3, hs, hE⟩) | (apply aK (t := 4); refine JL_o (by apply bB; exact aU hs) rfl rfl ?_; rintro _ _ ⟨b4, rfl, hb4, hs, hE⟩) | (apply bG; refine JL_u (by apply bA; exact aY hs rfl rfl rfl) rfl ?_; rintro _ _ ⟨hs, hF⟩) | (apply aT; first | refine bI rfl ob ?_ | refine bN rfl ob ?_))
    refine aZ Tryz.func38 rfl (.agg' hs rfl rfl (.tmp rfl .nil)) (.inl ⟨by decide, rfl, hs.frm.ext⟩)
  have e1 : drC N X0 = 0 := by unfold drC; rw [hi, decide_eq_false h1]; rfl
  obtain ⟨p, x, rfl, hxp, hxu⟩ := isM_true.1 hi
  have e2 : drL N ((p : Int) + 1) = gB N p := by unfold drL; rw [if_pos e1, show ((p : Int) + 1 - 1).toNat = p by omega]
  rw [e1, e2]
  have hpl := (List.getElem?_eq_some_iff.1 hxp).1
  obtain ⟨r0, hr0, hrel0⟩ := hm.get hxp
  obtain ⟨u1, mT, u3, u4⟩ := wZ hrel0
  have hr0' : rs[((p : Int) + 1 - 1).toNat]? = some r0 := by rw [show ((p : Int) + 1 - 1).toNat = p by omega]; exact hr0
  have hbx : 0 ≤ (p : Int) + 1 - 1 ∧ (p : Int) + 1 - 1 < n := by omega
  have ip : ((p : Int) + 1 - 1).toNat = p := by omega
  obtain ⟨b0, o0, rfl⟩ := hr.sl.addr (by omega)
  have hdr := tL hc hxp hxu
  repeat' (first | ((apply aV 46; refine JL_o (by exact aB en46 rfl (dK _ (some ⟨b0, o0, none⟩) a2 n c n2 c2 N E (h.st hs) (hE0.st hs) hn2 hz)) rfl rfl ?_; rintro _ _ ⟨rfl, hE⟩; rw [he]; have hs := hs.ext hE; (try simp only [zcc] at hs))) | ((apply aV 105; refine JL_o (by exact aB eT rfl (is_r _ (some ⟨b0, o0, none⟩) a2 n c n2 c2 N ((p : Int) + 1) (h.st hs) hx0)) rfl rfl ?_; rintro _ _ ⟨rfl, hE⟩; rw [hi]; have hs := hs.ext hE; (try simp only [zcc] at hs))) | ((apply ax_c; apply jY 106; exact rfl; (intro W X hN hs; exact aB en106 rfl (drop_ok _ a2 n2 c2 E r0.2.1.1 r0.2.1.2.1 r0.2.1.2.2 x.2.1 (hE0.st hs) hn2 (mT.st hs) hdr)); (rintro _ _ _ _ ⟨i0, e0, rs1, a4, c4, ⟨he0, he01, he0t⟩, rfl, hf⟩; first | exact hE | exact Fresh.ext hf); rintro W X _ _ hN hs ⟨i0, e0, rs1, a4, c4, ⟨he0, he01, he0t⟩, rfl, hf⟩; have hs := hs.fresh hf; (try simp only [zcc] at hs); refine JX.at hs ?_)) | ((apply aV 107; refine JL_o (by exact aB yK rfl (rO _ (some ⟨b0, o0, none⟩) a4 n c n2 c4 N (E.set i0 gone) (h.st hs) (iS hs zmm zmm) (by omega) hn2 hz (jG (mF hcE he0 he01)))) rfl rfl ?_; rintro _ _ ⟨qs, rs', a', a2', ⟨hqm, hqo⟩, rfl, hf⟩; have hs := hs.fresh hf; simp only [zcc] at hs; obtain ⟨b, o, rfl⟩ := (hs.row a' n n).some (by omega); have hql : qs.length = n := (by have := congrArg List.length hqm; rw [List.length_map] at this; omega); have hset : bQ (encL cNd (qs.map rawN)) (((p : Int) + 1 - 1).toNat * 4) (cNd r00) = encL cNd ((qs.map rawN).set p r00) := (by rw [ip]; exact qH _ p r00 (by rw [List.length_map]; omega)); (try simp only [zcc] at hs))) | ((apply ax_c; apply JX_cu; exact rfl; (intro W X hN hs; exact iQ (by apply bA; exact aY hs rfl rfl rfl) (St.zfoot (A := [_]) (C0 := [_, _, _]) (show St _ _ _ ([_] ++ [_, _, _]) from hs.sel [1, 4, 5, 6] (by decide)) hZZ)); (rintro _ _ _ _ ⟨⟨_, hF⟩, hzz⟩; exact Frm.rlZ hF (fun k hk => hzz k ⟨_, List.mem_singleton_self _, by rw [show k = b7 from hk]; exact fU _ _⟩)); exact rfl; rintro W X _ _ hN hs0 ⟨⟨hs, hF⟩, hzz⟩; refine JX.at hs ?_)) | ((apply bG; refine JL_u (by apply bA; exact dJ (b := b) (o := o) (off := ((p : Int) + 1 - 1).toNat * 4) (n := n) (c := n) (vs := cNd r00) hs rfl rfl rfl rfl (by simp [Value.oneCell']) (by show ((p : Int) + 1 - 1).toNat * 4 + 4 ≤ n * 4; omega)) rfl ?_; rintro _ _ ⟨hs, hF⟩; rw [hset] at hs)) | (apply aS) | ((first | (apply aJ) | (apply bW; exact rfl; exact gb) | (apply tU; exact rfl; intro W hs)); (first | (apply aW; first | exact aX hs rfl rfl aA | exact aI hs rfl aA | exact cD (i := ((p : Int) + 1 - 1).toNat) (j := 1) (hr.st hs) hr0' rfl rfl rfl aA) | (apply aQ; exact aH rfl aA) | (apply aF; exact aC rfl aA) | (apply aR; first | exact aM rfl rfl aA | exact bL rfl rfl aA) | (apply eD; exact dH rfl rfl (by omega) aA) | (apply aL; exact aN rfl rfl rfl aA) | (apply cE; exact cF rfl aA) | (apply cB; exact bP rfl gb rfl aA) | (apply bK; exact bX rfl aA) | (apply bR; exact bM rfl rfl aA) | (apply eS; exact gQ rfl aA) | (apply aP; exact aO rfl rfl (by omega) (by omega) aA) | (apply cX; exact cL rfl (by (simp only [bld, cQ, bQ, Value.cells, List.take_succ_cons, List.take_zero, List.drop_succ_cons, List.drop_zero, List.cons_append, List.nil_append, List.length_cons, List.length_nil, List.getElem?_cons_zero, List.getElem?_cons_succ, Option.map_some, List.append_nil, Nat.reduceAdd, Nat.reduceMul, Nat.zero_add, Nat.reduceLeDiff, and_self, if_true, List.toList_toArray, Nat.le_refl, Nat.zero_mul, Nat.one_mul]; first | done | rfl)) aA)); first | (exact rfl; exact rfl) | exact rfl) | (apply bC) | (apply aG) | (apply bD) | (apply bJ) | (apply aK (t := 2); refine JL_o (by apply bZ; exact bH hs rfl) rfl rfl ?_; rintro _ _ ⟨b2, rfl, hb2, hs, hE⟩) | (apply aK (t := 3); refine JL_o (by apply bZ; exact bH hs rfl) rfl rfl ?_; rintro _ _ ⟨b3, rfl, hb3, hs, hE⟩) | (apply aK (t := 4); refine JL_o (by apply bB; exact aU hs) rfl rfl ?_; rintro _ _ ⟨b4, rfl, hb4, hs, hE⟩) | (apply ax_n; refine JX_n (t := 7) rfl (fun W L hs => by apply bB; exact aU hs) rfl ?_) | (apply ax_k; (first | refine JX_k (t := 7) ?_ | refine JX_k2 (t := 7) rfl ?_); intro b7) | (apply bG; refine JL_u (by apply bA; exact aY hs rfl rfl rfl) rfl ?_; rintro _ _ ⟨hs, hF⟩) | (apply aT; refine bN rfl ob ?_) | (apply cW; (refine zM (id := 6) [0, 1, 0, 4, 0, 16, 60, 124, 252, 511, 1023, 2047, 2047, 0, 12287, 32767] [(0, 0), (1, 0), (2, 0), (3, 0), (4, 0), (5, 0), (6, 0), (7, 0), (8, 0), (13, 2), (9, 1), (10, 0), (11, 0), (12, 0), (13, 3), (14, 1), (15, 0)] [] [] [_, _, _] (show St _ _ _ [_, _, _] from hs.sel [0, 1, 2] (by decide)) rfl eJ (by kernel_rfl) (by kernel_rfl) (by kernel_rfl) (by kernel_rfl) (by kernel_rfl) ?_; intro ZZ hZZ)) | (refine cV (fun W hs => ?_)) | (apply dI))
  have hs := hs.zeroN false
  obtain ⟨q0, hq0⟩ : ∃ q0, qs[p]? = some q0 := ⟨_, List.getElem?_eq_getElem (by omega)⟩
  have hs := St.replN (L := [_, _, _, _, _, _]) hq0 (hs.sel [0, 2, 1, 3, 4, 8, 9, 10] (by decide))
  obtain ⟨qs1, hqs1⟩ : ∃ l, l = qs.set p (false, (z0, []), (z0, []), (z0, [])) := ⟨_, rfl⟩
  have hqm1 : qs1.map gK = N.set p n0 := by rw [hqs1, List.map_set, hqm]
  have hqr1 : qs1.map rawN = (qs.map rawN).set p r00 := by rw [hqs1, List.map_set]
  have hqo1 : ∀ q ∈ qs1, okN q := by rw [hqs1]; exact iV hqo (uI false)
  rw [← hqs1, ← hqr1] at hs
  obtain ⟨N1, hN1⟩ : ∃ l, l = N.set p n0 := ⟨_, rfl⟩
  rw [← hN1] at hqm1
  have hN1l : N1.length = n := by rw [hN1, List.length_set, hl]
  have hz1 : szN N1 := by
    rw [hN1]
    intro u hu
    rcases List.mem_or_eq_of_mem_set hu with e | e
    · exact hz u e
    · rw [e]; exact ⟨by show 0 ≤ 1000000; omega, by show 0 ≤ 1000000; omega, by show 0 ≤ 1000000; omega⟩
  refine dF (α := Nat × List QN) [(2, _), (4, _), (9, _), (57, _)] (fun g => [(58, .int .i64 g.1)]) (fun g w' => St w NoF w' [OwnN g.2, TabN (some ⟨b, o, none⟩) n n (g.2.map rawN), dE a2' n2 n2 rs', Own rs' (E.set i0 gone), Blk b4 (.cells #[.slice none 0 0, .slice none 0 0] 57 (0, 0)), Blk b3 (.cells #[.int .i64 ((p : Int) + 1)] 3 (0, 0)), Blk b2 (.cells #[.slice (some ⟨b, o, none⟩) n n, .slice a2' n2 n2] 57 (0, 0))] ∧ (g.2.map gK = (N1.take g.1).map (tN ((p : Int) + 1)) ++ N1.drop g.1 ∧ ∀ q ∈ g.2, okN q) ∧ g.1 ≤ n) (fun g => n - g.1) (0, qs1) ⟨hs, ⟨hqm1, hqo1⟩, Nat.zero_le _⟩ zss ?_
  rintro ⟨i, qi⟩ w2 ⟨hs1, ⟨hqmi, hqoi⟩, hin⟩ ih
  dsimp only at hs1 hqmi hqoi hin ih ⊢
  have hs : St w NoF w2 [_, _, _, _, _, _, _] := hs1
  by_cases hlt : i < n
  · obtain ⟨y, hy⟩ : ∃ y, N1[i]? = some y := ⟨_, List.getElem?_eq_getElem (by omega)⟩
    obtain ⟨z1, z2, z3⟩ := hz1 y (List.mem_of_getElem? hy)
    have hgi : ((N1.take i).map (tN ((p : Int) + 1)) ++ N1.drop i)[i]? = some y := by
      rw [List.getElem?_append_right (by rw [List.length_map, List.length_take]; omega), List.length_map, List.length_take, List.getElem?_drop, show i + (i - min i N1.length) = i by omega]; exact hy
    obtain ⟨q, hq, hqy⟩ := pA hqmi hgi
    obtain ⟨y1, y2, y3, y4⟩ := qA hqy
    obtain ⟨⟨o1, o2⟩, ⟨o3, o4⟩, ⟨o5, o6⟩⟩ := hqoi q (List.mem_of_getElem? hq)
    have hql1 := (List.getElem?_eq_some_iff.1 hq).1
    have hraw : (qi.map rawN)[i]? = some (rawN q) := by rw [List.getElem?_map, hq]; rfl
    have hc2 : (encL cNd (qi.map rawN))[i * 4 + 2]? = some (.slice q.2.2.1.1.1 q.2.2.1.1.2.1 q.2.2.1.1.2.2) := by
      rw [show (encL cNd (qi.map rawN))[i * 4 + 2]? = (cNd (rawN q))[2]? from eW (d := dRNd) (qi.map rawN) i 2 (rawN q) hraw (by show 2 < 4; omega)]; rfl
    have hc3 : (encL cNd (qi.map rawN))[i * 4 + 3]? = some (.slice q.2.2.2.1.1 q.2.2.2.1.2.1 q.2.2.2.1.2.2) := by
      rw [show (encL cNd (qi.map rawN))[i * 4 + 3]? = (cNd (rawN q))[3]? from eW (d := dRNd) (qi.map rawN) i 3 (rawN q) hraw (by show 3 < 4; omega)]; rfl
    have hg24 : ((qi.map rawN).set i (q.1, q.2.1.1, (q.2.2.1.1.1, (eP q.2.2.1.2 ((p : Int) + 1)).length, q.2.2.1.1.2.2), q.2.2.2.1))[i]? = some (q.1, q.2.1.1, (q.2.2.1.1.1, (eP q.2.2.1.2 ((p : Int) + 1)).length, q.2.2.1.1.2.2), q.2.2.2.1) := List.getElem?_set_self (by rw [List.length_map]; exact hql1)
    have hset24 : bQ (encL cNd (qi.map rawN)) (i * 4 + 2) [.slice q.2.2.1.1.1 (eP q.2.2.1.2 ((p : Int) + 1)).length q.2.2.1.1.2.2] = encL cNd ((qi.map rawN).set i (q.1, q.2.1.1, (q.2.2.1.1.1, (eP q.2.2.1.2 ((p : Int) + 1)).length, q.2.2.1.1.2.2), q.2.2.2.1)) := oG _ i (rawN q) _ _ _ hraw
    have hset27 : bQ (encL cNd ((qi.map rawN).set i (q.1, q.2.1.1, (q.2.2.1.1.1, (eP q.2.2.1.2 ((p : Int) + 1)).length, q.2.2.1.1.2.2), q.2.2.2.1))) (i * 4 + 3) [.slice q.2.2.2.1.1 (eP q.2.2.2.2 ((p : Int) + 1)).length q.2.2.2.1.2.2] = encL cNd ((qi.map rawN).set i (q.1, q.2.1.1, (q.2.2.1.1.1, (eP q.2.2.1.2 ((p : Int) + 1)).length, q.2.2.1.1.2.2), (q.2.2.2.1.1, (eP q.2.2.2.2 ((p : Int) + 1)).length, q.2.2.2.1.2.2))) := (oF _ i _ _ _ _ hg24).trans (by rw [List.set_set])
    obtain ⟨qn, hqn⟩ : ∃ qn : QN, qn = (q.1, q.2.1, ((q.2.2.1.1.1, (eP q.2.2.1.2 ((p : Int) + 1)).length, q.2.2.1.1.2.2), eP q.2.2.1.2 ((p : Int) + 1)), ((q.2.2.2.1.1, (eP q.2.2.2.2 ((p : Int) + 1)).length, q.2.2.2.1.2.2), eP q.2.2.2.2 ((p : Int) + 1))) := ⟨_, rfl⟩
    have hqno : okN qn := by rw [hqn]; exact ⟨⟨o1, o2⟩, ⟨rfl, fun s hs => o4 s (List.mem_filter.1 hs).1⟩, ⟨rfl, fun s hs => o6 s (List.mem_filter.1 hs).1⟩⟩
    have hqnx : gK qn = tN ((p : Int) + 1) y := by rw [hqn]; exact nm_eq.2 ⟨y1, y2, by show eP q.2.2.1.2 _ = eP y.2.2.1 _; rw [y3], by show eP q.2.2.2.2 _ = eP y.2.2.2 _; rw [y4]⟩
    have hqnr : (qi.set i qn).map rawN = (qi.map rawN).set i (q.1, q.2.1.1, (q.2.2.1.1.1, (eP q.2.2.1.2 ((p : Int) + 1)).length, q.2.2.1.1.2.2), (q.2.2.2.1.1, (eP q.2.2.2.2 ((p : Int) + 1)).length, q.2.2.2.1.2.2)) := by rw [List.map_set, hqn]
    have hqnm : (qi.set i qn).map gK = (N1.take (i + 1)).map (tN ((p : Int) + 1)) ++ N1.drop (i + 1) := by
      rw [List.map_set, hqmi, hqnx, nQ _ N1 i _ (by rw [List.length_map, List.length_take]; omega) (by omega), List.take_add_one, hy, List.map_append]; rfl
    have hn2' : q.2.2.1.1.2.1 ≤ 4000000 := by rw [o3, y3]; omega
    have hn3' : q.2.2.2.1.2.1 ≤ 4000000 := by rw [o5, y4]; omega
    repeat' (first | ((apply uV 16; refine hold ?_)) | (apply aS) | ((apply aJ); (first | (apply aQ; exact aH rfl aA) | (apply aF; exact aC rfl aA) | (apply aL; exact aN rfl rfl rfl aA)); first | (exact rfl; exact rfl) | exact rfl) | (apply bC) | (apply aG) | (apply bD) | (apply bJ) | (apply aT; refine bI rfl ob ?_))
    refine tV ?_
    have hs := St.unpackN (St.takeN hq (hs.sel [0, 1, 2, 3, 4, 5, 6] (by decide)))
    have hs : St w NoF _ ([row2 q, row3 q, TabN (some ⟨b, o, none⟩) n n (qi.map rawN)] ++ [row1 q, OwnN (qi.take i ++ qi.drop (i + 1)), dE a2' n2 n2 rs', Own rs' (E.set i0 gone), Blk b4 (.cells #[.slice none 0 0, .slice none 0 0] 57 (0, 0)), Blk b3 (.cells #[.int .i64 ((p : Int) + 1)] 3 (0, 0)), Blk b2 (.cells #[.slice (some ⟨b, o, none⟩) n n, .slice a2' n2 n2] 57 (0, 0))]) := hs.sel [1, 2, 4, 0, 3, 5, 6, 7, 8, 9] (by decide)
    obtain ⟨ZZ, hZZ⟩ : ∃ Z : Nat → Prop, ∀ k, Z k ↔ ((NoF k ∨ w.heap.size ≤ k) ∧ ∀ c ∈ [row1 q, OwnN (qi.take i ++ qi.drop (i + 1)), dE a2' n2 n2 rs', Own rs' (E.set i0 gone), Blk b4 (.cells #[.slice none 0 0, .slice none 0 0] 57 (0, 0)), Blk b3 (.cells #[.int .i64 ((p : Int) + 1)] 3 (0, 0)), Blk b2 (.cells #[.slice (some ⟨b, o, none⟩) n n, .slice a2' n2 n2] 57 (0, 0))], ¬ c.foot k) := ⟨_, fun _ => Iff.rfl⟩
    refine J_draw (id := 16) ZZ [0, 1, 0, 0, 8, 0, 0, 64, 0, 448, 960, 1984, 0, 8128, 0, 16384, 0, 114688, 245760, 507904, 0, 2097088, 4194247, 8388551, 16777159, 33554431, 67108863, 134217727] [(0, false), (1, false), (2, false), (3, false), (4, false), (5, false), (6, false), (7, false), (8, false), (9, false), (10, false), (12, false), (14, false), (15, false), (16, false), (17, false), (18, false), (20, false), (11, false), (13, false), (19, false), (21, false), (22, false), (23, false), (24, false), (25, false), (26, false)] [27] eJ (by kernel_rfl) (by kernel_rfl) ?_
    intro _ hE _
    have hs : St w NoF _ ([row2 q, row3 q, TabN (some ⟨b, o, none⟩) n n (qi.map rawN)] ++ [row1 q, OwnN (qi.take i ++ qi.drop (i + 1)), dE a2' n2 n2 rs', Own rs' (E.set i0 gone), Blk b4 (.cells #[.slice none 0 0, .slice none 0 0] 57 (0, 0)), Blk b3 (.cells #[.int .i64 ((p : Int) + 1)] 3 (0, 0)), Blk b2 (.cells #[.slice (some ⟨b, o, none⟩) n n, .slice a2' n2 n2] 57 (0, 0))]) := hs.ext hE
    repeat' (first | (apply mI; exact rfl; (intro W hRl; have hs := St.rlV (A := [_, _, _]) (C0 := [_, _, _, _, _, _, _]) hs hZZ hRl; first | (apply aQ; exact aH rfl aA) | (apply aR; first | exact aM rfl rfl aA | exact bL rfl rfl aA) | (apply aP; exact aO rfl rfl (by omega) (by omega) aA) | (apply aW; exact aX hs rfl rfl aA)); exact rfl))
    refine gZ [11, 19] rfl (by kernel_rfl) ⟨?_, ?_, trivial⟩
    · have hsl : St w NoF _ [_, _, _, _, _, _, _, _, _, _] := hs
      refine kO (t := 72) [(13, false), (19, false), (21, false), (22, false), (23, false), (24, false), (25, false), (26, false)] (by kernel_rfl) (by kernel_rfl) (by kernel_rfl) (by kernel_rfl) rfl rfl (by apply aW; exact gA (b := b) (o := o) (off := i * 4 + 2) (n := n) (c := n) hsl rfl hc2 aA) (fun _ _ h9 => by rw [(kZ h9).2]; exact Rl.refl _) ?_
      intro _ _ h9
      obtain ⟨rfl, rfl⟩ := kZ h9
      clear hsl
      refine gZ [13, 19] rfl (by kernel_rfl) ⟨?_, ?_, trivial⟩
      · have hz3 := St.zfoot (A := [_, _, _]) (C0 := [_, _, _, _, _, _, _]) hs hZZ
        have hb3 := gW (hs.all (Blk b3 (.cells #[.int .i64 ((p : Int) + 1)] 3 (0, 0))) (List.mem_append_right _ (.tail _ (.tail _ (.tail _ (.tail _ (.tail _ (.head _))))))))
        have hsc : St w NoF _ ([row2 q] ++ [_, _, _, _, _, _, _, _, _]) := hs
        have hne3 := kC (b := b3) (o := .cells #[.int .i64 ((p : Int) + 1)] 3 (0, 0)) hsc zmm
        refine kO (t := 74) [(19, false), (21, false), (22, false), (23, false), (24, false), (25, false), (26, false)] (by kernel_rfl) (by kernel_rfl) (by kernel_rfl) (by kernel_rfl) rfl rfl (iQ (aB vY rfl (mB _ q.2.2.1.1.1 q.2.2.1.1.2.1 q.2.2.1.1.2.2 q.2.2.1.2 (St.held (A := [_]) hsc) o4 hn2' 108 #[ptr b3] vZ (fun x => decide (x.2 = (p : Int) + 1)) (fun W hW x hx => kT W x _ b3 ((hW b3 (Array.getElem?_eq_some_iff.1 hb3).1 (fun hf => hne3 b3 ⟨_, List.mem_singleton_self _, gR hf⟩ rfl)).trans hb3)))) (fun k hk => hz3 k ⟨_, .head _, gR (iU hk)⟩)) (by rintro _ _ ⟨⟨rfl, ht⟩, hzz⟩; exact Frm.rlZ ht.frm hzz) ?_
        rintro _ _ ⟨⟨rfl, ht⟩, hzz⟩
        have hsd := St.take (A := [_]) (A' := [_]) (L := [_, _, _, _, _, _, _, _, _]) hsc ht
        have hs : St w NoF _ ([_, _, _] ++ [_, _, _, _, _, _, _]) := hsd
        clear hz3 hb3 hne3 hsc hsd ht hzz
        refine gZ [19] rfl (by kernel_rfl) ⟨?_, trivial⟩
        have hsl : St w NoF _ [_, _, _, _, _, _, _, _, _, _] := hs
        refine kO (t := 80) [(21, false), (22, false), (23, false), (24, false), (25, false), (26, false)] (by kernel_rfl) (by kernel_rfl) (by kernel_rfl) (by kernel_rfl) rfl rfl (by apply aW; exact gA (b := b) (o := o) (off := i * 4 + 3) (n := n) (c := n) hsl rfl hc3 aA) (fun _ _ h9 => by rw [(kZ h9).2]; exact Rl.refl _) ?_
        intro _ _ h9
        obtain ⟨rfl, rfl⟩ := kZ h9
        clear hsl
        refine gZ [21] rfl (by kernel_rfl) ⟨?_, trivial⟩
        have hz3 := St.zfoot (A := [_, _, _]) (C0 := [_, _, _, _, _, _, _]) hs hZZ
        have hb3 := gW (hs.all (Blk b3 (.cells #[.int .i64 ((p : Int) + 1)] 3 (0, 0))) (List.mem_append_right _ (.tail _ (.tail _ (.tail _ (.tail _ (.tail _ (.head _))))))))
        have hsc : St w NoF _ ([row3 q] ++ [_, _, _, _, _, _, _, _, _]) := (show St w NoF _ [_, _, _, _, _, _, _, _, _, _] from hs).sel [1, 0, 2, 3, 4, 5, 6, 7, 8, 9] (by decide)
        have hne3 := kC (b := b3) (o := .cells #[.int .i64 ((p : Int) + 1)] 3 (0, 0)) hsc zmm
        refine kO (t := 82) [(22, false), (23, false), (24, false), (25, false), (26, false)] (by kernel_rfl) (by kernel_rfl) (by kernel_rfl) (by kernel_rfl) rfl rfl (iQ (aB vY rfl (mB _ q.2.2.2.1.1 q.2.2.2.1.2.1 q.2.2.2.1.2.2 q.2.2.2.2 (St.held (A := [_]) hsc) o6 hn3' 108 #[ptr b3] vZ (fun x => decide (x.2 = (p : Int) + 1)) (fun W hW x hx => kT W x _ b3 ((hW b3 (Array.getElem?_eq_some_iff.1 hb3).1 (fun hf => hne3 b3 ⟨_, List.mem_singleton_self _, gR hf⟩ rfl)).trans hb3)))) (fun k hk => hz3 k ⟨_, .tail _ (.head _), gR (iU hk)⟩)) (by rintro _ _ ⟨⟨rfl, ht⟩, hzz⟩; exact Frm.rlZ ht.frm hzz) ?_
        rintro _ _ ⟨⟨rfl, ht⟩, hzz⟩
        have hsd := St.take (A := [_]) (A' := [_]) (L := [_, _, _, _, _, _, _, _, _]) hsc ht
        have hs : St w NoF _ ([_, _, _] ++ [_, _, _, _, _, _, _]) := (show St w NoF _ [_, _, _, _, _, _, _, _, _, _] from hsd).sel [1, 0, 2, 3, 4, 5, 6, 7, 8, 9] (by decide)
        clear hz3 hb3 hne3 hsc hsd ht hzz
        (apply mI; exact rfl; (intro W hRl; have hs := St.rlV (A := [_, _, _]) (C0 := [_, _, _, _, _, _, _]) hs hZZ hRl; first | (apply aR; first | exact aM rfl rfl aA | exact bL rfl rfl aA) | (apply aP; exact aO rfl rfl (by omega) (by omega) aA)); exact rfl)
        (apply mI; exact rfl; (intro W hRl; have hs := St.rlV (A := [_, _, _]) (C0 := [_, _, _, _, _, _, _]) hs hZZ hRl; first | (apply aR; first | exact aM rfl rfl aA | exact bL rfl rfl aA) | (apply aP; exact aO rfl rfl (by omega) (by omega) aA)); exact rfl)
        refine gZ [24] rfl (by kernel_rfl) ⟨?_, trivial⟩
        have hz3 := St.zfoot (A := [_, _, _]) (C0 := [_, _, _, _, _, _, _]) hs hZZ
        have hsl : St w NoF _ [_, _, _, _, _, _, _, _, _, _] := hs
        refine zP [(25, false), (26, false)] (by kernel_rfl) (by kernel_rfl) (by kernel_rfl) (by kernel_rfl) rfl rfl (iQ (by apply bA; exact dJ (b := b) (o := o) (off := i * 4 + 2) (n := n) (c := n) (vs := [.slice q.2.2.1.1.1 (eP q.2.2.1.2 ((p : Int) + 1)).length q.2.2.1.1.2.2]) hsl rfl rfl rfl rfl (by simp [Value.oneCell']) (by show i * 4 + 2 + 1 ≤ n * 4; omega)) (fun k hk => hz3 k ⟨_, .tail _ (.tail _ (.head _)), gR hk⟩)) (by rintro _ _ ⟨⟨_, hF⟩, hzz⟩; exact Frm.rlZ hF hzz) ?_
        rintro _ _ ⟨⟨hs, hF⟩, hzz⟩
        rw [hset24] at hs
        have hs : St w NoF _ ([_, _, _] ++ [_, _, _, _, _, _, _]) := hs
        clear hz3 hsl hF hzz
        (apply mI; exact rfl; (intro W hRl; have hs := St.rlV (A := [_, _, _]) (C0 := [_, _, _, _, _, _, _]) hs hZZ hRl; first | (apply aR; first | exact aM rfl rfl aA | exact bL rfl rfl aA) | (apply aP; exact aO rfl rfl (by omega) (by omega) aA)); exact rfl)
        (apply mI; exact rfl; (intro W hRl; have hs := St.rlV (A := [_, _, _]) (C0 := [_, _, _, _, _, _, _]) hs hZZ hRl; first | (apply aR; first | exact aM rfl rfl aA | exact bL rfl rfl aA) | (apply aP; exact aO rfl rfl (by omega) (by omega) aA)); exact rfl)
        (apply fN; case' hos => (simp only [List.map_cons, List.map_nil, List.getElem?_toArray, List.getElem?_cons_succ, List.getElem?_cons_zero]; repeat' (first | exact gT | apply fL)))
        apply bG
        have hsl : St w NoF _ [_, _, _, _, _, _, _, _, _, _] := hs
        refine JL_u (by apply bA; exact dJ (b := b) (o := o) (off := i * 4 + 3) (n := n) (c := n) (vs := [.slice q.2.2.2.1.1 (eP q.2.2.2.2 ((p : Int) + 1)).length q.2.2.2.1.2.2]) hsl rfl rfl rfl rfl (by simp [Value.oneCell']) (by show i * 4 + 3 + 1 ≤ n * 4; omega)) rfl ?_
        rintro _ _ ⟨hs, hF⟩
        rw [hset27] at hs
        repeat' (first | (apply aS) | ((apply aJ); (first | (apply aQ; exact aH rfl aA) | (apply cJ; exact bV rfl rfl (by omega) (by first | (simp only [Int.reduceAdd]; exact rfl) | exact rfl) aA)); first | (exact rfl; exact rfl) | exact rfl) | (apply aG) | (apply bO))
        have hs := St.packN (q := (q.1, q.2.1, ((q.2.2.1.1.1, (eP q.2.2.1.2 ((p : Int) + 1)).length, q.2.2.1.1.2.2), eP q.2.2.1.2 ((p : Int) + 1)), ((q.2.2.2.1.1, (eP q.2.2.2.2 ((p : Int) + 1)).length, q.2.2.2.1.2.2), eP q.2.2.2.2 ((p : Int) + 1)))) (L := [OwnN (qi.take i ++ qi.drop (i + 1)), _, _, _, _, _, _]) (hs.sel [3, 0, 1, 4, 2, 5, 6, 7, 8, 9] (by decide))
        rw [← hqn] at hs
        have hs := St.putN hql1 hs
        refine ih (i + 1, qi.set i qn) _ _ ⟨by dsimp only; rw [hqnr]; exact hs, ⟨hqnm, iV hqoi hqno⟩, by dsimp only; omega⟩ (by dsimp only; omega) zss
      · have hsl : St w NoF _ [_, _, _, _, _, _, _, _, _, _] := hs
        refine kO (t := 80) [(13, false), (21, false), (22, false), (23, false), (24, false), (25, false), (26, false)] (by kernel_rfl) (by kernel_rfl) (by kernel_rfl) (by kernel_rfl) rfl rfl (by apply aW; exact gA (b := b) (o := o) (off := i * 4 + 3) (n := n) (c := n) hsl rfl hc3 aA) (fun _ _ h9 => by rw [(kZ h9).2]; exact Rl.refl _) ?_
        intro _ _ h9
        obtain ⟨rfl, rfl⟩ := kZ h9
        clear hsl
        refine gZ [13] rfl (by kernel_rfl) ⟨?_, trivial⟩
        have hz3 := St.zfoot (A := [_, _, _]) (C0 := [_, _, _, _, _, _, _]) hs hZZ
        have hb3 := gW (hs.all (Blk b3 (.cells #[.int .i64 ((p : Int) + 1)] 3 (0, 0))) (List.mem_append_right _ (.tail _ (.tail _ (.tail _ (.tail _ (.tail _ (.head _))))))))
        have hsc : St w NoF _ ([row2 q] ++ [_, _, _, _, _, _, _, _, _]) := hs
        have hne3 := kC (b := b3) (o := .cells #[.int .i64 ((p : Int) + 1)] 3 (0, 0)) hsc zmm
        refine kO (t := 74) [(21, false), (22, false), (23, false), (24, false), (25, false), (26, false)] (by kernel_rfl) (by kernel_rfl) (by kernel_rfl) (by kernel_rfl) rfl rfl (iQ (aB vY rfl (mB _ q.2.2.1.1.1 q.2.2.1.1.2.1 q.2.2.1.1.2.2 q.2.2.1.2 (St.held (A := [_]) hsc) o4 hn2' 108 #[ptr b3] vZ (fun x => decide (x.2 = (p : Int) + 1)) (fun W hW x hx => kT W x _ b3 ((hW b3 (Array.getElem?_eq_some_iff.1 hb3).1 (fun hf => hne3 b3 ⟨_, List.mem_singleton_self _, gR hf⟩ rfl)).trans hb3)))) (fun k hk => hz3 k ⟨_, .head _, gR (iU hk)⟩)) (by rintro _ _ ⟨⟨rfl, ht⟩, hzz⟩; exact Frm.rlZ ht.frm hzz) ?_
        rintro _ _ ⟨⟨rfl, ht⟩, hzz⟩
        have hsd := St.take (A := [_]) (A' := [_]) (L := [_, _, _, _, _, _, _, _, _]) hsc ht
        have hs : St w NoF _ ([_, _, _] ++ [_, _, _, _, _, _, _]) := hsd
        clear hz3 hb3 hne3 hsc hsd ht hzz
        refine gZ [21] rfl (by kernel_rfl) ⟨?_, trivial⟩
        have hz3 := St.zfoot (A := [_, _, _]) (C0 := [_, _, _, _, _, _, _]) hs hZZ
        have hb3 := gW (hs.all (Blk b3 (.cells #[.int .i64 ((p : Int) + 1)] 3 (0, 0))) (List.mem_append_right _ (.tail _ (.tail _ (.tail _ (.tail _ (.tail _ (.head _))))))))
        have hsc : St w NoF _ ([row3 q] ++ [_, _, _, _, _, _, _, _, _]) := (show St w NoF _ [_, _, _, _, _, _, _, _, _, _] from hs).sel [1, 0, 2, 3, 4, 5, 6, 7, 8, 9] (by decide)
        have hne3 := kC (b := b3) (o := .cells #[.int .i64 ((p : Int) + 1)] 3 (0, 0)) hsc zmm
        refine kO (t := 82) [(22, false), (23, false), (24, false), (25, false), (26, false)] (by kernel_rfl) (by kernel_rfl) (by kernel_rfl) (by kernel_rfl) rfl rfl (iQ (aB vY rfl (mB _ q.2.2.2.1.1 q.2.2.2.1.2.1 q.2.2.2.1.2.2 q.2.2.2.2 (St.held (A := [_]) hsc) o6 hn3' 108 #[ptr b3] vZ (fun x => decide (x.2 = (p : Int) + 1)) (fun W hW x hx => kT W x _ b3 ((hW b3 (Array.getElem?_eq_some_iff.1 hb3).1 (fun hf => hne3 b3 ⟨_, List.mem_singleton_self _, gR hf⟩ rfl)).trans hb3)))) (fun k hk => hz3 k ⟨_, .tail _ (.head _), gR (iU hk)⟩)) (by rintro _ _ ⟨⟨rfl, ht⟩, hzz⟩; exact Frm.rlZ ht.frm hzz) ?_
        rintro _ _ ⟨⟨rfl, ht⟩, hzz⟩
        have hsd := St.take (A := [_]) (A' := [_]) (L := [_, _, _, _, _, _, _, _, _]) hsc ht
        have hs : St w NoF _ ([_, _, _] ++ [_, _, _, _, _, _, _]) := (show St w NoF _ [_, _, _, _, _, _, _, _, _, _] from hsd).sel [1, 0, 2, 3, 4, 5, 6, 7, 8, 9] (by decide)
        clear hz3 hb3 hne3 hsc hsd ht hzz
        (apply mI; exact rfl; (intro W hRl; have hs := St.rlV (A := [_, _, _]) (C0 := [_, _, _, _, _, _, _]) hs hZZ hRl; first | (apply aR; first | exact aM rfl rfl aA | exact bL rfl rfl aA) | (apply aP; exact aO rfl rfl (by omega) (by omega) aA)); exact rfl)
        (apply mI; exact rfl; (intro W hRl; have hs := St.rlV (A := [_, _, _]) (C0 := [_, _, _, _, _, _, _]) hs hZZ hRl; first | (apply aR; first | exact aM rfl rfl aA | exact bL rfl rfl aA) | (apply aP; exact aO rfl rfl (by omega) (by omega) aA)); exact rfl)
        refine gZ [24] rfl (by kernel_rfl) ⟨?_, trivial⟩
        have hz3 := St.zfoot (A := [_, _, _]) (C0 := [_, _, _, _, _, _, _]) hs hZZ
        have hsl : St w NoF _ [_, _, _, _, _, _, _, _, _, _] := hs
        refine zP [(25, false), (26, false)] (by kernel_rfl) (by kernel_rfl) (by kernel_rfl) (by kernel_rfl) rfl rfl (iQ (by apply bA; exact dJ (b := b) (o := o) (off := i * 4 + 2) (n := n) (c := n) (vs := [.slice q.2.2.1.1.1 (eP q.2.2.1.2 ((p : Int) + 1)).length q.2.2.1.1.2.2]) hsl rfl rfl rfl rfl (by simp [Value.oneCell']) (by show i * 4 + 2 + 1 ≤ n * 4; omega)) (fun k hk => hz3 k ⟨_, .tail _ (.tail _ (.head _)), gR hk⟩)) (by rintro _ _ ⟨⟨_, hF⟩, hzz⟩; exact Frm.rlZ hF hzz) ?_
        rintro _ _ ⟨⟨hs, hF⟩, hzz⟩
        rw [hset24] at hs
        have hs : St w NoF _ ([_, _, _] ++ [_, _, _, _, _, _, _]) := hs
        clear hz3 hsl hF hzz
        (apply mI; exact rfl; (intro W hRl; have hs := St.rlV (A := [_, _, _]) (C0 := [_, _, _, _, _, _, _]) hs hZZ hRl; first | (apply aR; first | exact aM rfl rfl aA | exact bL rfl rfl aA) | (apply aP; exact aO rfl rfl (by omega) (by omega) aA)); exact rfl)
        (apply mI; exact rfl; (intro W hRl; have hs := St.rlV (A := [_, _, _]) (C0 := [_, _, _, _, _, _, _]) hs hZZ hRl; first | (apply aR; first | exact aM rfl rfl aA | exact bL rfl rfl aA) | (apply aP; exact aO rfl rfl (by omega) (by omega) aA)); exact rfl)
        (apply fN; case' hos => (simp only [List.map_cons, List.map_nil, List.getElem?_toArray, List.getElem?_cons_succ, List.getElem?_cons_zero]; repeat' (first | exact gT | apply fL)))
        apply bG
        have hsl : St w NoF _ [_, _, _, _, _, _, _, _, _, _] := hs
        refine JL_u (by apply bA; exact dJ (b := b) (o := o) (off := i * 4 + 3) (n := n) (c := n) (vs := [.slice q.2.2.2.1.1 (eP q.2.2.2.2 ((p : Int) + 1)).length q.2.2.2.1.2.2]) hsl rfl rfl rfl rfl (by simp [Value.oneCell']) (by show i * 4 + 3 + 1 ≤ n * 4; omega)) rfl ?_
        rintro _ _ ⟨hs, hF⟩
        rw [hset27] at hs
        repeat' (first | (apply aS) | ((apply aJ); (first | (apply aQ; exact aH rfl aA) | (apply cJ; exact bV rfl rfl (by omega) (by first | (simp only [Int.reduceAdd]; exact rfl) | exact rfl) aA)); first | (exact rfl; exact rfl) | exact rfl) | (apply aG) | (apply bO))
        have hs := St.packN (q := (q.1, q.2.1, ((q.2.2.1.1.1, (eP q.2.2.1.2 ((p : Int) + 1)).length, q.2.2.1.1.2.2), eP q.2.2.1.2 ((p : Int) + 1)), ((q.2.2.2.1.1, (eP q.2.2.2.2 ((p : Int) + 1)).length, q.2.2.2.1.2.2), eP q.2.2.2.2 ((p : Int) + 1)))) (L := [OwnN (qi.take i ++ qi.drop (i + 1)), _, _, _, _, _, _]) (hs.sel [3, 0, 1, 4, 2, 5, 6, 7, 8, 9] (by decide))
        rw [← hqn] at hs
        have hs := St.putN hql1 hs
        refine ih (i + 1, qi.set i qn) _ _ ⟨by dsimp only; rw [hqnr]; exact hs, ⟨hqnm, iV hqoi hqno⟩, by dsimp only; omega⟩ (by dsimp only; omega) zss
    · have hsl : St w NoF _ [_, _, _, _, _, _, _, _, _, _] := hs
      refine kO (t := 80) [(11, false), (13, false), (21, false), (22, false), (23, false), (24, false), (25, false), (26, false)] (by kernel_rfl) (by kernel_rfl) (by kernel_rfl) (by kernel_rfl) rfl rfl (by apply aW; exact gA (b := b) (o := o) (off := i * 4 + 3) (n := n) (c := n) hsl rfl hc3 aA) (fun _ _ h9 => by rw [(kZ h9).2]; exact Rl.refl _) ?_
      intro _ _ h9
      obtain ⟨rfl, rfl⟩ := kZ h9
      clear hsl
      refine gZ [11] rfl (by kernel_rfl) ⟨?_, trivial⟩
      have hsl : St w NoF _ [_, _, _, _, _, _, _, _, _, _] := hs
      refine kO (t := 72) [(13, false), (21, false), (22, false), (23, false), (24, false), (25, false), (26, false)] (by kernel_rfl) (by kernel_rfl) (by kernel_rfl) (by kernel_rfl) rfl rfl (by apply aW; exact gA (b := b) (o := o) (off := i * 4 + 2) (n := n) (c := n) hsl rfl hc2 aA) (fun _ _ h9 => by rw [(kZ h9).2]; exact Rl.refl _) ?_
      intro _ _ h9
      obtain ⟨rfl, rfl⟩ := kZ h9
      clear hsl
      refine gZ [13] rfl (by kernel_rfl) ⟨?_, trivial⟩
      have hz3 := St.zfoot (A := [_, _, _]) (C0 := [_, _, _, _, _, _, _]) hs hZZ
      have hb3 := gW (hs.all (Blk b3 (.cells #[.int .i64 ((p : Int) + 1)] 3 (0, 0))) (List.mem_append_right _ (.tail _ (.tail _ (.tail _ (.tail _ (.tail _ (.head _))))))))
      have hsc : St w NoF _ ([row2 q] ++ [_, _, _, _, _, _, _, _, _]) := hs
      have hne3 := kC (b := b3) (o := .cells #[.int .i64 ((p : Int) + 1)] 3 (0, 0)) hsc zmm
      refine kO (t := 74) [(21, false), (22, false), (23, false), (24, false), (25, false), (26, false)] (by kernel_rfl) (by kernel_rfl) (by kernel_rfl) (by kernel_rfl) rfl rfl (iQ (aB vY rfl (mB _ q.2.2.1.1.1 q.2.2.1.1.2.1 q.2.2.1.1.2.2 q.2.2.1.2 (St.held (A := [_]) hsc) o4 hn2' 108 #[ptr b3] vZ (fun x => decide (x.2 = (p : Int) + 1)) (fun W hW x hx => kT W x _ b3 ((hW b3 (Array.getElem?_eq_some_iff.1 hb3).1 (fun hf => hne3 b3 ⟨_, List.mem_singleton_self _, gR hf⟩ rfl)).trans hb3)))) (fun k hk => hz3 k ⟨_, .head _, gR (iU hk)⟩)) (by rintro _ _ ⟨⟨rfl, ht⟩, hzz⟩; exact Frm.rlZ ht.frm hzz) ?_
      rintro _ _ ⟨⟨rfl, ht⟩, hzz⟩
      have hsd := St.take (A := [_]) (A' := [_]) (L := [_, _, _, _, _, _, _, _, _]) hsc ht
      have hs : St w NoF _ ([_, _, _] ++ [_, _, _, _, _, _, _]) := hsd
      clear hz3 hb3 hne3 hsc hsd ht hzz
      refine gZ [21] rfl (by kernel_rfl) ⟨?_, trivial⟩
      have hz3 := St.zfoot (A := [_, _, _]) (C0 := [_, _, _, _, _, _, _]) hs hZZ
      have hb3 := gW (hs.all (Blk b3 (.cells #[.int .i64 ((p : Int) + 1)] 3 (0, 0))) (List.mem_append_right _ (.tail _ (.tail _ (.tail _ (.tail _ (.tail _ (.head _))))))))
      have hsc : St w NoF _ ([row3 q] ++ [_, _, _, _, _, _, _, _, _]) := (show St w NoF _ [_, _, _, _, _, _, _, _, _, _] from hs).sel [1, 0, 2, 3, 4, 5, 6, 7, 8, 9] (by decide)
      have hne3 := kC (b := b3) (o := .cells #[.int .i64 ((p : Int) + 1)] 3 (0, 0)) hsc zmm
      refine kO (t := 82) [(22, false), (23, false), (24, false), (25, false), (26, false)] (by kernel_rfl) (by kernel_rfl) (by kernel_rfl) (by kernel_rfl) rfl rfl (iQ (aB vY rfl (mB _ q.2.2.2.1.1 q.2.2.2.1.2.1 q.2.2.2.1.2.2 q.2.2.2.2 (St.held (A := [_]) hsc) o6 hn3' 108 #[ptr b3] vZ (fun x => decide (x.2 = (p : Int) + 1)) (fun W hW x hx => kT W x _ b3 ((hW b3 (Array.getElem?_eq_some_iff.1 hb3).1 (fun hf => hne3 b3 ⟨_, List.mem_singleton_self _, gR hf⟩ rfl)).trans hb3)))) (fun k hk => hz3 k ⟨_, .tail _ (.head _), gR (iU hk)⟩)) (by rintro _ _ ⟨⟨rfl, ht⟩, hzz⟩; exact Frm.rlZ ht.frm hzz) ?_
      rintro _ _ ⟨⟨rfl, ht⟩, hzz⟩
      have hsd := St.take (A := [_]) (A' := [_]) (L := [_, _, _, _, _, _, _, _, _]) hsc ht
      have hs : St w NoF _ ([_, _, _] ++ [_, _, _, _, _, _, _]) := (show St w NoF _ [_, _, _, _, _, _, _, _, _, _] from hsd).sel [1, 0, 2, 3, 4, 5, 6, 7, 8, 9] (by decide)
      clear hz3 hb3 hne3 hsc hsd ht hzz
      (apply mI; exact rfl; (intro W hRl; have hs := St.rlV (A := [_, _, _]) (C0 := [_, _, _, _, _, _, _]) hs hZZ hRl; first | (apply aR; first | exact aM rfl rfl aA | exact bL rfl rfl aA) | (apply aP; exact aO rfl rfl (by omega) (by omega) aA)); exact rfl)
      (apply mI; exact rfl; (intro W hRl; have hs := St.rlV (A := [_, _, _]) (C0 := [_, _, _, _, _, _, _]) hs hZZ hRl; first | (apply aR; first | exact aM rfl rfl aA | exact bL rfl rfl aA) | (apply aP; exact aO rfl rfl (by omega) (by omega) aA)); exact rfl)
      refine gZ [24] rfl (by kernel_rfl) ⟨?_, trivial⟩
      have hz3 := St.zfoot (A := [_, _, _]) (C0 := [_, _, _, _, _, _, _]) hs hZZ
      have hsl : St w NoF _ [_, _, _, _, _, _, _, _, _, _] := hs
      refine zP [(25, false), (26, false)] (by kernel_rfl) (by kernel_rfl) (by kernel_rfl) (by kernel_rfl) rfl rfl (iQ (by apply bA; exact dJ (b := b) (o := o) (off := i * 4 + 2) (n := n) (c := n) (vs := [.slice q.2.2.1.1.1 (eP q.2.2.1.2 ((p : Int) + 1)).length q.2.2.1.1.2.2]) hsl rfl rfl rfl rfl (by simp [Value.oneCell']) (by show i * 4 + 2 + 1 ≤ n * 4; omega)) (fun k hk => hz3 k ⟨_, .tail _ (.tail _ (.head _)), gR hk⟩)) (by rintro _ _ ⟨⟨_, hF⟩, hzz⟩; exact Frm.rlZ hF hzz) ?_
      rintro _ _ ⟨⟨hs, hF⟩, hzz⟩
      rw [hset24] at hs
      have hs : St w NoF _ ([_, _, _] ++ [_, _, _, _, _, _, _]) := hs
      clear hz3 hsl hF hzz
      (apply mI; exact rfl; (intro W hRl; have hs := St.rlV (A := [_, _, _]) (C0 := [_, _, _, _, _, _, _]) hs hZZ hRl; first | (apply aR; first | exact aM rfl rfl aA | exact bL rfl rfl aA) | (apply aP; exact aO rfl rfl (by omega) (by omega) aA)); exact rfl)
      (apply mI; exact rfl; (intro W hRl; have hs := St.rlV (A := [_, _, _]) (C0 := [_, _, _, _, _, _, _]) hs hZZ hRl; first | (apply aR; first | exact aM rfl rfl aA | exact bL rfl rfl aA) | (apply aP; exact aO rfl rfl (by omega) (by omega) aA)); exact rfl)
      (apply fN; case' hos => (simp only [List.map_cons, List.map_nil, List.getElem?_toArray, List.getElem?_cons_succ, List.getElem?_cons_zero]; repeat' (first | exact gT | apply fL)))
      apply bG
      have hsl : St w NoF _ [_, _, _, _, _, _, _, _, _, _] := hs
      refine JL_u (by apply bA; exact dJ (b := b) (o := o) (off := i * 4 + 3) (n := n) (c := n) (vs := [.slice q.2.2.2.1.1 (eP q.2.2.2.2 ((p : Int) + 1)).length q.2.2.2.1.2.2]) hsl rfl rfl rfl rfl (by simp [Value.oneCell']) (by show i * 4 + 3 + 1 ≤ n * 4; omega)) rfl ?_
      rintro _ _ ⟨hs, hF⟩
      rw [hset27] at hs
      repeat' (first | (apply aS) | ((apply aJ); (first | (apply aQ; exact aH rfl aA) | (apply cJ; exact bV rfl rfl (by omega) (by first | (simp only [Int.reduceAdd]; exact rfl) | exact rfl) aA)); first | (exact rfl; exact rfl) | exact rfl) | (apply aG) | (apply bO))
      have hs := St.packN (q := (q.1, q.2.1, ((q.2.2.1.1.1, (eP q.2.2.1.2 ((p : Int) + 1)).length, q.2.2.1.1.2.2), eP q.2.2.1.2 ((p : Int) + 1)), ((q.2.2.2.1.1, (eP q.2.2.2.2 ((p : Int) + 1)).length, q.2.2.2.1.2.2), eP q.2.2.2.2 ((p : Int) + 1)))) (L := [OwnN (qi.take i ++ qi.drop (i + 1)), _, _, _, _, _, _]) (hs.sel [3, 0, 1, 4, 2, 5, 6, 7, 8, 9] (by decide))
      rw [← hqn] at hs
      have hs := St.putN hql1 hs
      refine ih (i + 1, qi.set i qn) _ _ ⟨by dsimp only; rw [hqnr]; exact hs, ⟨hqnm, iV hqoi hqno⟩, by dsimp only; omega⟩ (by dsimp only; omega) zss
  · have hin2 : i = n := by omega
    subst hin2
    rw [List.take_of_length_le (by omega), List.drop_of_length_le (by omega), List.append_nil, hN1, away_map] at hqmi
    obtain ⟨ML, hML⟩ : ∃ l, l = N.mapIdx (offN p) := ⟨_, rfl⟩
    rw [← hML] at hqmi
    have hMLl : ML.length = i := by rw [hML, List.length_mapIdx, hl]
    have hdN : gB N p = ML.take (kF ML i) := by rw [hML]; unfold gB rC; rw [List.length_mapIdx, hl]
    obtain ⟨x0, hx00, hxu0, _⟩ := g.first
    have hp0 : p ≠ 0 := fun e => h1 (by rw [e]; rfl)
    have hM0 : (ML.getD 0 n0).1 = true := by
      have : ML[0]? = some (offN p 0 x0) := by rw [hML, List.getElem?_mapIdx, hx00]; rfl
      rw [dG this, fY (fun e => hp0 e.symm)]
      exact hxu0
    have hlast1 : ∀ k, 1 ≤ k → 1 ≤ kF ML k := by
      intro k hk
      induction k with
      | zero => omega
      | succ k ihk =>
        unfold kF
        by_cases c9 : (ML.getD k n0).1 = true
        · rw [if_pos c9]; omega
        · rw [if_neg c9]
          by_cases e9 : k = 0
          · subst e9; exact absurd hM0 c9
          · exact ihk (by omega)
    repeat' (first | (apply aS) | ((apply aJ); (first | (apply aW; first | exact aX hs rfl rfl aA | exact aI hs rfl aA) | (apply aF; exact aC rfl aA) | (apply aR; exact aM rfl rfl aA) | (apply aL; exact aN rfl rfl rfl aA) | (apply bK; exact bX rfl aA)); first | (exact rfl; exact rfl) | exact rfl) | (apply bC) | (apply aG) | (apply bD) | (apply cI; refine cY rfl ?_) | (apply aT; refine bN rfl ob ?_))
    clear ih
    refine dF (α := Nat) [(2, _), (4, _)] (fun m => [(11, .int .i64 m)]) (fun m w' => St w NoF w' [OwnN qi, TabN (some ⟨b, o, none⟩) i i (qi.map rawN), dE a2' n2 n2 rs', Own rs' (E.set i0 gone), Blk b4 (.cells #[.slice none 0 0, .slice none 0 0] 57 (0, 0)), Blk b3 (.cells #[.int .i64 ((p : Int) + 1)] 3 (0, 0)), Blk b2 (.cells #[.slice (some ⟨b, o, none⟩) i i, .slice a2' n2 n2] 57 (0, 0))] ∧ (1 ≤ m ∧ m ≤ i) ∧ kF ML i = kF ML m) (fun m => m) i ⟨hs, ⟨by omega, Nat.le_refl _⟩, rfl⟩ zss ?_
    rintro m w3 ⟨hs3, ⟨hm1, hmi⟩, hlu⟩ ih
    have hs : St w NoF w3 [_, _, _, _, _, _, _] := hs3
    have hmi2 : inK .i64 (m : Int) := by unfold inK; simp only [IntKind.min, IntKind.max, IntKind.bits, IntKind.signed]; omega
    have hgm : ML[m - 1]? = some (ML[m - 1]'(by omega)) := List.getElem?_eq_getElem (by omega)
    have hsl : ∀ {W : World} {L : List HP}, St w NoF W L → TabN (some ⟨b, o, none⟩) i i (qi.map rawN) ∈ L → OwnN qi ∈ L → Sl iL All W (some ⟨b, o, none⟩) i i ML := fun hs u1 u2 => Sl.to hqmi (slN hs u1 u2 hqoi)
    have hlm : kF ML m = if (ML.getD (m - 1) n0).1 then m else kF ML (m - 1) := by
      obtain ⟨k, rfl⟩ : ∃ k, m = k + 1 := ⟨m - 1, by omega⟩
      rw [Nat.add_sub_cancel]; rfl
    obtain ⟨ub, hub⟩ : ∃ u, (ML.getD (m - 1) n0).1 = u := ⟨_, rfl⟩
    have his : isM ML (m : Int) = ub := by
      unfold isM
      rw [decide_eq_true (by omega), show ((m : Int) - 1).toNat = m - 1 by omega, hub]; rfl
    rw [hub] at hlm
    cases ub with
    | false =>
      rw [if_neg (by decide)] at hlm
      have hm2 : 2 ≤ m := Decidable.by_contra fun c9 => by
        have := hlast1 m hm1
        rw [hlm, show m - 1 = 0 by omega] at this
        unfold kF at this
        omega
      repeat' (first | ((apply aV 105; refine JL_o (by exact aB eT rfl (is_r _ (some ⟨b, o, none⟩) a2' i i n2 n2 ML (m : Int) (hsl hs zmm zmm) hmi2)) rfl rfl ?_; rintro _ _ ⟨rfl, hE⟩; rw [his]; have hs := hs.ext hE; (try simp only [zcc] at hs))) | (apply aS) | ((apply aJ); (first | (apply aW; first | exact aX hs rfl rfl aA | exact aI hs rfl aA) | (apply aQ; exact aH rfl aA) | (apply aF; exact aC rfl aA) | (apply eD; exact dH rfl rfl (by omega) aA) | (apply cE; exact cF rfl aA)); first | (exact rfl; exact rfl) | exact rfl) | (apply bC) | (apply aG) | (apply bD) | (apply bO) | (apply bJ) | (apply aT; refine bY rfl gb ?_))
      refine ih (m - 1) _ _ ⟨hs, ⟨by omega, by omega⟩, hlu.trans hlm⟩ (by omega) ?_
      rw [show ((m - 1 : Nat) : Int) = (m : Int) - 1 by omega]
      repeat' (first | exact trivial | exact rfl | apply And.intro)
    | true =>
      rw [if_pos rfl] at hlm
      repeat' (first | ((apply aV 105; refine JL_o (by exact aB eT rfl (is_r _ (some ⟨b, o, none⟩) a2' i i n2 n2 ML (m : Int) (hsl hs zmm zmm) hmi2)) rfl rfl ?_; rintro _ _ ⟨rfl, hE⟩; rw [his]; have hs := hs.ext hE; (try simp only [zcc] at hs))) | (apply aS) | ((apply aJ); (first | (apply aW; first | exact aX hs rfl rfl aA | exact aI hs rfl aA) | (apply dP; exact eI (kl := .i64) (kh := .i64) (km := .i64) (a' := some ⟨b, o, none⟩) (l := 0) (h := (m : Int)) (m := (m : Int)) rfl (.inl ⟨rfl, rfl⟩) (.inr ⟨_, rfl, rfl⟩) (.inr ⟨_, rfl, rfl⟩) (by omega) (by omega) (by omega) (by omega) (by split; rfl; exact zB _) (by rw [Int.sub_zero, Int.toNat_natCast]; exact aA)) | (apply aQ; exact aH rfl aA) | (apply aF; exact aC rfl aA) | (apply aR; exact aM rfl rfl aA) | (apply cE; exact cF rfl aA)); first | (exact rfl; exact rfl) | exact rfl) | (apply bC) | (apply aG) | (apply cI; refine cY rfl ?_) | (apply bG; refine JL_u (by apply bA; exact aY hs rfl rfl rfl) rfl ?_; rintro _ _ ⟨hs, hF⟩) | (apply aT; refine bT rfl gb ?_))
      have hs := St.cutN m (hs.sel [0, 1, 2, 3, 4] (by decide))
      have hs := St.cutRow (L := [_, _, _, _]) (hs.sel [1, 0, 2, 3, 4] (by decide)) m m hmi (Nat.le_refl _) hmi
      have hct : (encL cNd (qi.map rawN)).take (m * 4) = encL cNd ((qi.take m).map rawN) := by rw [List.map_take]; exact (iK (d := dRNd) (qi.map rawN) m).symm
      rw [hct] at hs
      have hdl : (gB N p).length = m := by rw [hdN, hlu, hlm, List.length_take]; omega
      refine aZ Tryz.func38 rfl (.agg' hs rfl rfl (.tmp rfl .nil)) (.inr ⟨rfl, some ⟨b, o, none⟩, m, m, a2', n2, n2, rfl, hmi, qi.take m, E.set i0 gone, rs', ⟨by rw [List.map_take, hqmi, hdN, hlu, hlm], fun u hu => hqoi u (List.mem_of_mem_take hu)⟩, ⟨mF hcE he0 he01, rW hc hxp hxu he0 he01 he0t⟩, ⟨hdl, (gone_len i0).trans hl2, hn2⟩, hs.out (.cons_cons _ (.cons_cons _ (.cons_cons _ (.cons_cons _ (List.nil_sublist _)))))⟩)
end Go.Eng
end
section
namespace Go.Eng
open Go.Proofs
set_option linter.unusedSimpArgs false
set_option linter.unusedVariables false
def ofE (N : List NM) (E : List Ent) (t : List Int) : Int := if eC N E then ofC N t else 220
abbrev zG : Value := .agg #[.slice none 0 0, .slice none 0 0]
def GRes (w : World) (e : Int) (n : Int) (N' : List NM) (mx : Nat) (v : Value) (w' : World) : Prop :=
  (e ≠ 0 ∧ v = .tuple #[zG, .int .i64 0, .int .i64 e] ∧ Ext w w') ∨
  (e = 0 ∧ ∃ a' m' c' a2' m2 c2', v = .tuple #[.agg #[.slice a' m' c', .slice a2' m2 c2'], .int .i64 n, .int .i64 0] ∧ m' ≤ mx ∧ GOut w w' N' a' m' c' a2' m2 c2')
theorem GRes.bad {w w' : World} {e n : Int} {N' : List NM} {mx : Nat} {v : Value} (h : GRes w e n N' mx v w') (he : e ≠ 0) : v = .tuple #[zG, .int .i64 0, .int .i64 e] ∧ Ext w w' := by
  rcases h with ⟨_, r⟩ | ⟨h2, _⟩
  · exact r
  · exact absurd h2 he
theorem GRes.ok {w w' : World} {e n : Int} {N' : List NM} {mx : Nat} {v : Value} (h : GRes w e n N' mx v w') (he : e = 0) : ∃ a' m' c' a2' m2 c2', v = .tuple #[.agg #[.slice a' m' c', .slice a2' m2 c2'], .int .i64 n, .int .i64 0] ∧ m' ≤ mx ∧ GOut w w' N' a' m' c' a2' m2 c2' := by
  rcases h with ⟨h2, _⟩ | ⟨_, r⟩
  · exact absurd he h2
  · exact r
abbrev N00 : List NM := [newN []]
theorem gr_new : GR N00 := nodes_iff.1 (by decide)
theorem put_new {es : List Ent} (hc : dD es = true) (hp : (es.filter dY).Perm (allM (newE 8) ++ [(1, [], 1)])) : allM es = fC N00 := by
  refine yZ hc gr_new.uniq fun e => ?_
  rw [hp.mem_iff, yY, List.nil_append, ents_mem, List.mem_singleton]
  constructor
  · rintro rfl; exact ⟨0, newN [], rfl, rfl, rfl⟩
  · rintro ⟨j, x, hx, hu, rfl⟩
    cases j with
    | zero => cases hx; rfl
    | succ j => cases hx
theorem putE_new : putE (newE 8) [] 1 = 0 := xE yV tw0 (by omega) (fun y hy => by rw [show (newE 8).filter dY = [] by decide] at hy; cases hy) (by rw [yY]; decide)
attribute [local irreducible] Hold J JL JD JX JXat OpR OpG Ret RetV Is Blk Row
set_option maxRecDepth 100000
set_option maxHeartbeats 1000000
theorem gnew_r (w : World) : Ret Tryz.prog 54 #[] w fun v w' => ∃ a' c' a2' m2 c2', v = .agg #[.slice a' 1 c', .slice a2' m2 c2'] ∧ GOut w w' N00 a' 1 c' a2' m2 c2' := by
  refine cG (l := []) Tryz.func54 rfl Tryz.ntmps54 (by simp) ?_
  have hs := St.init w
  have h1i : inK .i64 (1 : Int) := by unfold inK; simp only [IntKind.min, IntKind.max, IntKind.bits, IntKind.signed]; omega
  repeat' (first | ((apply aV 133; refine JL_o (by exact aB en133 rfl (new_r _)) rfl rfl ?_; rintro _ _ ⟨a1, rfl, hf⟩; have hs := hs.fresh hf; (try simp only [zcc] at hs))) | ((apply aV 132; refine JL_o (by exact aB en132 rfl (xC _ a1 8 8 (newE 8) none 0 0 [] 1 (iS hs zmm zmm) (by omega) (nil_sl _ _ _) h1i putE_new)) rfl rfl ?_; rintro _ _ ⟨es1, rs1, a4, ⟨hce1, hpe1, hle1⟩, rfl, hf⟩; have hs := hs.fresh hf; (try simp only [zcc] at hs))) | (apply aS) | ((apply aJ); (first | (apply aW; first | exact aX hs rfl rfl aA | exact aI hs rfl aA) | (apply aQ; exact aH rfl aA) | (apply aF; exact aC rfl aA) | (apply bR; exact bM rfl rfl aA) | (apply cX; exact cL rfl (by (simp only [bld, cQ, bQ, Value.cells, List.take_succ_cons, List.take_zero, List.drop_succ_cons, List.drop_zero, List.cons_append, List.nil_append, List.length_cons, List.length_nil, List.getElem?_cons_zero, List.getElem?_cons_succ, Option.map_some, List.append_nil, Nat.reduceAdd, Nat.reduceMul, Nat.zero_add, Nat.reduceLeDiff, and_self, if_true, List.toList_toArray, Nat.le_refl, Nat.zero_mul, Nat.one_mul]; first | done | rfl)) aA)); first | (exact rfl; exact rfl) | exact rfl) | (apply bC) | (apply aG) | (apply aK (t := 0); refine JL_o (by apply bB; exact aU hs) rfl rfl ?_; rintro _ _ ⟨b0, rfl, hb0, hs, hE⟩) | (apply aK (t := 1); refine JL_o (by apply bB; exact aU hs) rfl rfl ?_; rintro _ _ ⟨b1, rfl, hb1, hs, hE⟩) | (apply aK (t := 9); refine JL_o (by apply cR; exact cK hs rfl (by omega) rfl) rfl rfl ?_; rintro _ _ ⟨b9, rfl, hb9, hs, hE⟩) | (apply bG; refine JL_u (by apply bA; exact aY hs rfl rfl rfl) rfl ?_; rintro _ _ ⟨hs, hF⟩))
  have hs := St.toRow (L := [_, _, _]) (hs.sel [0, 2, 3, 6] (by decide)) 0 1 1 4 (xs := encL cNd [rNew z0]) (Nat.le_refl _) (by unfold maxLen; omega) (by decide) rfl
  have hs := St.pushN (hs.nilN.zeroN true)
  refine aZ Tryz.func54 rfl (.agg' hs rfl rfl .nil) ⟨_, 1, a4, es1.length, es1.length, rfl, [(true, (z0, []), (z0, []), (z0, []))], es1, rs1, ⟨rfl, fun q hq => by rw [List.mem_singleton.1 hq]; exact uI true⟩, ⟨hce1, put_new hce1 hpe1⟩, ⟨rfl, rfl, hle1⟩, (hs.sel [1, 0, 2, 3] (by decide)).out (List.Sublist.refl _)⟩
theorem xZ (w : World) (a a2 : Option Addr) (n c n2 c2 : Nat) (N : List NM) (E : List Ent) (X0 id : Int) (h : Sl iL All w a n c N) (hE0 : Sl dEnt All w a2 n2 c2 E) (hn : n ≤ 900000) (hn2 : n2 ≤ 1048576) (hz : szN N) (hx0 : inK .i64 X0) (hid : okId id) :
    Ret Tryz.prog 35 #[.agg #[.slice a n c, .slice a2 n2 c2], .int .i64 X0, .int .u64 id] w (GRes w (goE N E X0 id true) (gon N X0 id true) (goL N X0 id true) (n + 1)) := by
  refine cG (l := [_, _, _]) Tryz.func35 rfl Tryz.ntmps35 (by simp) ?_
  have hs := St.init w
  by_cases he : goE N E X0 id true = 0
  · repeat' (first | ((apply aV 100; refine JL_o (by exact aB en100 rfl ((yA _ a a2 n c n2 c2 N E X0 id (h.st hs) (hE0.st hs) hn hn2 hz hx0 hid).mono (fun _ _ r => GRes.ok (mx := n + 1) r he))) rfl rfl ?_; rintro _ _ ⟨a', m', c', a2', m2, c2', rfl, hm', qs, es, rs', hq, hce, hnl, hf⟩; have hs := hs.fresh hf; (try simp only [zcc] at hs))) | (apply aS) | ((apply aJ); (first | (apply aW; first | exact aX hs rfl rfl aA | exact aI hs rfl aA) | (apply aQ; exact aH rfl aA) | (apply aF; exact aC rfl aA) | (apply bR; exact bM rfl rfl aA)); first | (exact rfl; exact rfl) | exact rfl) | (apply bC) | (apply aG) | (apply aK (t := 3); refine JL_o (by apply bZ; exact bH hs rfl) rfl rfl ?_; rintro _ _ ⟨b3, rfl, hb3, hs, hE⟩) | (apply aK (t := 6); refine JL_o (by apply bB; exact aU hs) rfl rfl ?_; rintro _ _ ⟨b6, rfl, hb6, hs, hE⟩) | (apply bG; refine JL_u (by apply bA; exact aY hs rfl rfl rfl) rfl ?_; rintro _ _ ⟨hs, hF⟩))
    refine aZ Tryz.func35 rfl (.agg' hs rfl rfl (.tmp rfl (.tmp rfl .nil))) (.inr ⟨he, a', m', c', a2', m2, c2', rfl, hm', qs, es, rs', hq, hce, hnl, hs.out (.cons_cons _ (.cons_cons _ (.cons_cons _ (.cons_cons _ (List.nil_sublist _)))))⟩)
  · repeat' (first | ((apply aV 100; refine JL_o (by exact aB en100 rfl ((yA _ a a2 n c n2 c2 N E X0 id (h.st hs) (hE0.st hs) hn hn2 hz hx0 hid).mono (fun _ _ r => GRes.bad (mx := n + 1) r he))) rfl rfl ?_; rintro _ _ ⟨rfl, hE⟩; have hs := hs.ext hE; (try simp only [zcc] at hs))) | (apply aS) | ((apply aJ); (first | (apply aW; first | exact aX hs rfl rfl aA | exact aI hs rfl aA) | (apply aQ; exact aH rfl aA) | (apply aF; exact aC rfl aA) | (apply bR; exact bM rfl rfl aA)); first | (exact rfl; exact rfl) | exact rfl) | (apply bC) | (apply aG) | (apply aK (t := 3); refine JL_o (by apply bZ; exact bH hs rfl) rfl rfl ?_; rintro _ _ ⟨b3, rfl, hb3, hs, hE⟩) | (apply aK (t := 6); refine JL_o (by apply bB; exact aU hs) rfl rfl ?_; rintro _ _ ⟨b6, rfl, hb6, hs, hE⟩) | (apply bG; refine JL_u (by apply bA; exact aY hs rfl rfl rfl) rfl ?_; rintro _ _ ⟨hs, hF⟩))
    refine aZ Tryz.func35 rfl (.agg' hs rfl rfl (.tmp rfl (.tmp rfl .nil))) (.inl ⟨he, rfl, hs.frm.ext⟩)
theorem gless_r (w : World) (a a2 : Option Addr) (n c n2 c2 : Nat) (N : List NM) (E : List Ent) (X0 id : Int) (h : Sl iL All w a n c N) (hE0 : Sl dEnt All w a2 n2 c2 E) (hn : n ≤ 900000) (hn2 : n2 ≤ 1048576) (hz : szN N) (hx0 : inK .i64 X0) (hid : okId id) :
    Ret Tryz.prog 36 #[.agg #[.slice a n c, .slice a2 n2 c2], .int .i64 X0, .int .u64 id] w (GRes w (goE N E X0 id false) (gon N X0 id false) (goL N X0 id false) (n + 1)) := by
  refine cG (l := [_, _, _]) Tryz.func36 rfl Tryz.ntmps36 (by simp) ?_
  have hs := St.init w
  by_cases he : goE N E X0 id false = 0
  · repeat' (first | ((apply aV 100; refine JL_o (by exact aB en100 rfl ((yB _ a a2 n c n2 c2 N E X0 id (h.st hs) (hE0.st hs) hn hn2 hz hx0 hid).mono (fun _ _ r => GRes.ok (mx := n + 1) r he))) rfl rfl ?_; rintro _ _ ⟨a', m', c', a2', m2, c2', rfl, hm', qs, es, rs', hq, hce, hnl, hf⟩; have hs := hs.fresh hf; (try simp only [zcc] at hs))) | (apply aS) | ((apply aJ); (first | (apply aW; first | exact aX hs rfl rfl aA | exact aI hs rfl aA) | (apply aQ; exact aH rfl aA) | (apply aF; exact aC rfl aA) | (apply bR; exact bM rfl rfl aA)); first | (exact rfl; exact rfl) | exact rfl) | (apply bC) | (apply aG) | (apply aK (t := 3); refine JL_o (by apply bZ; exact bH hs rfl) rfl rfl ?_; rintro _ _ ⟨b3, rfl, hb3, hs, hE⟩) | (apply aK (t := 6); refine JL_o (by apply bB; exact aU hs) rfl rfl ?_; rintro _ _ ⟨b6, rfl, hb6, hs, hE⟩) | (apply bG; refine JL_u (by apply bA; exact aY hs rfl rfl rfl) rfl ?_; rintro _ _ ⟨hs, hF⟩))
    refine aZ Tryz.func36 rfl (.agg' hs rfl rfl (.tmp rfl (.tmp rfl .nil))) (.inr ⟨he, a', m', c', a2', m2, c2', rfl, hm', qs, es, rs', hq, hce, hnl, hs.out (.cons_cons _ (.cons_cons _ (.cons_cons _ (.cons_cons _ (List.nil_sublist _)))))⟩)
  · repeat' (first | ((apply aV 100; refine JL_o (by exact aB en100 rfl ((yB _ a a2 n c n2 c2 N E X0 id (h.st hs) (hE0.st hs) hn hn2 hz hx0 hid).mono (fun _ _ r => GRes.bad (mx := n + 1) r he))) rfl rfl ?_; rintro _ _ ⟨rfl, hE⟩; have hs := hs.ext hE; (try simp only [zcc] at hs))) | (apply aS) | ((apply aJ); (first | (apply aW; first | exact aX hs rfl rfl aA | exact aI hs rfl aA) | (apply aQ; exact aH rfl aA) | (apply aF; exact aC rfl aA) | (apply bR; exact bM rfl rfl aA)); first | (exact rfl; exact rfl) | exact rfl) | (apply bC) | (apply aG) | (apply aK (t := 3); refine JL_o (by apply bZ; exact bH hs rfl) rfl rfl ?_; rintro _ _ ⟨b3, rfl, hb3, hs, hE⟩) | (apply aK (t := 6); refine JL_o (by apply bB; exact aU hs) rfl rfl ?_; rintro _ _ ⟨b6, rfl, hb6, hs, hE⟩) | (apply bG; refine JL_u (by apply bA; exact aY hs rfl rfl rfl) rfl ?_; rintro _ _ ⟨hs, hF⟩))
    refine aZ Tryz.func36 rfl (.agg' hs rfl rfl (.tmp rfl (.tmp rfl .nil))) (.inl ⟨he, rfl, hs.frm.ext⟩)
theorem gOf_r (w : World) (a a2 a3 : Option Addr) (n c n2 c2 n3 c3 : Nat) (N : List NM) (E : List Ent) (t : List Int) (h : Sl iL All w a n c N) (hE0 : Sl dEnt All w a2 n2 c2 E) (ht : Sl dId All w a3 n3 c3 t) (hn : n ≤ 900000) (hn2 : n2 ≤ 1048576) (hz : szN N) :
    Ret Tryz.prog 33 #[.agg #[.slice a n c, .slice a2 n2 c2], .slice a3 n3 c3] w (GRes w (ofE N E t) (ofn N t) (ofL N t) (n + 1)) := by
  refine cG (l := [_, _]) Tryz.func33 rfl Tryz.ntmps33 (by simp) ?_
  have hs := St.init w
  cases hc : eC N E with
  | false =>
    have heg := gN hc
    have eE : ofE N E t = 220 := by unfold ofE; rw [hc]; rfl
    rw [eE]
    repeat' (first | ((apply aV 46; refine JL_o (by exact aB en46 rfl (dK _ a a2 n c n2 c2 N E (h.st hs) (hE0.st hs) hn2 hz)) rfl rfl ?_; rintro _ _ ⟨rfl, hE⟩; rw [heg]; have hs := hs.ext hE; (try simp only [zcc] at hs))) | (apply aS) | ((apply aJ); (first | (apply aW; first | exact aX hs rfl rfl aA | exact aI hs rfl aA) | (apply aQ; exact aH rfl aA) | (apply aF; exact aC rfl aA) | (apply aL; exact aN rfl rfl rfl aA) | (apply cX; exact cL rfl (by (simp only [bld, cQ, bQ, Value.cells, List.take_succ_cons, List.take_zero, List.drop_succ_cons, List.drop_zero, List.cons_append, List.nil_append, List.length_cons, List.length_nil, List.getElem?_cons_zero, List.getElem?_cons_succ, Option.map_some, List.append_nil, Nat.reduceAdd, Nat.reduceMul, Nat.zero_add, Nat.reduceLeDiff, and_self, if_true, List.toList_toArray, Nat.le_refl, Nat.zero_mul, Nat.one_mul]; first | done | rfl)) aA)); first | (exact rfl; exact rfl) | exact rfl) | (apply bC) | (apply aG) | (apply aK (t := 2); refine JL_o (by apply bZ; exact bH hs rfl) rfl rfl ?_; rintro _ _ ⟨b2, rfl, hb2, hs, hE⟩) | (apply aK (t := 4); refine JL_o (by apply bB; exact aU hs) rfl rfl ?_; rintro _ _ ⟨b4, rfl, hb4, hs, hE⟩) | (apply bG; refine JL_u (by apply bA; exact aY hs rfl rfl rfl) rfl ?_; rintro _ _ ⟨hs, hF⟩) | (apply aT; refine bI rfl ob ?_))
    refine aZ Tryz.func33 rfl (.agg' hs rfl rfl (.tmp rfl (.tmp rfl .nil))) (.inl ⟨by decide, rfl, hs.frm.ext⟩)
  | true =>
  have heg := jC hc
  have eE : ofE N E t = ofC N t := by unfold ofE; rw [hc]; rfl
  rw [eE]
  by_cases he : ofC N t = 0
  · repeat' (first | ((apply aV 46; refine JL_o (by exact aB en46 rfl (dK _ a a2 n c n2 c2 N E (h.st hs) (hE0.st hs) hn2 hz)) rfl rfl ?_; rintro _ _ ⟨rfl, hE⟩; rw [heg]; have hs := hs.ext hE; (try simp only [zcc] at hs))) | ((apply aV 99; refine JL_o (by exact aB en99 rfl (yC _ a a2 a3 n c n2 c2 n3 c3 N E t (h.st hs) (hE0.st hs) (ht.st hs) hn hn2 hz hc he)) rfl rfl ?_; rintro _ _ ⟨a', m', c', a2', m2, c2', rfl, hm', qs, es, rs', hq, hce, hnl, hf⟩; have hs := hs.fresh hf; (try simp only [zcc] at hs))) | (apply aS) | ((apply aJ); (first | (apply aW; first | exact aX hs rfl rfl aA | exact aI hs rfl aA) | (apply aQ; exact aH rfl aA) | (apply aF; exact aC rfl aA) | (apply aL; exact aN rfl rfl rfl aA) | (apply bR; exact bM rfl rfl aA)); first | (exact rfl; exact rfl) | exact rfl) | (apply bC) | (apply aG) | (apply bJ) | (apply aK (t := 2); refine JL_o (by apply bZ; exact bH hs rfl) rfl rfl ?_; rintro _ _ ⟨b2, rfl, hb2, hs, hE⟩) | (apply aK (t := 4); refine JL_o (by apply bB; exact aU hs) rfl rfl ?_; rintro _ _ ⟨b4, rfl, hb4, hs, hE⟩) | (apply bG; refine JL_u (by apply bA; exact aY hs rfl rfl rfl) rfl ?_; rintro _ _ ⟨hs, hF⟩) | (apply aT; refine bN rfl ob ?_))
    refine aZ Tryz.func33 rfl (.agg' hs rfl rfl (.tmp rfl (.tmp rfl .nil))) (.inr ⟨he, a', m', c', a2', m2, c2', rfl, hm', qs, es, rs', hq, hce, hnl, hs.out (.cons_cons _ (.cons_cons _ (.cons_cons _ (.cons_cons _ (List.nil_sublist _)))))⟩)
  · repeat' (first | ((apply aV 46; refine JL_o (by exact aB en46 rfl (dK _ a a2 n c n2 c2 N E (h.st hs) (hE0.st hs) hn2 hz)) rfl rfl ?_; rintro _ _ ⟨rfl, hE⟩; rw [heg]; have hs := hs.ext hE; (try simp only [zcc] at hs))) | ((apply aV 99; refine JL_o (by exact aB en99 rfl (tB _ a a2 a3 n c n2 c2 n3 c3 N E t (h.st hs) (hE0.st hs) (ht.st hs) hn hn2 hz hc he)) rfl rfl ?_; rintro _ _ ⟨rfl, hE⟩; have hs := hs.ext hE; (try simp only [zcc] at hs))) | (apply aS) | ((apply aJ); (first | (apply aW; first | exact aX hs rfl rfl aA | exact aI hs rfl aA) | (apply aQ; exact aH rfl aA) | (apply aF; exact aC rfl aA) | (apply aL; exact aN rfl rfl rfl aA) | (apply bR; exact bM rfl rfl aA)); first | (exact rfl; exact rfl) | exact rfl) | (apply bC) | (apply aG) | (apply bJ) | (apply aK (t := 2); refine JL_o (by apply bZ; exact bH hs rfl) rfl rfl ?_; rintro _ _ ⟨b2, rfl, hb2, hs, hE⟩) | (apply aK (t := 4); refine JL_o (by apply bB; exact aU hs) rfl rfl ?_; rintro _ _ ⟨b4, rfl, hb4, hs, hE⟩) | (apply bG; refine JL_u (by apply bA; exact aY hs rfl rfl rfl) rfl ?_; rintro _ _ ⟨hs, hF⟩) | (apply aT; refine bN rfl ob ?_))
    refine aZ Tryz.func33 rfl (.agg' hs rfl rfl (.tmp rfl (.tmp rfl .nil))) (.inl ⟨he, rfl, hs.frm.ext⟩)
end Go.Eng
end
section
namespace Go.Eng
open Go.Proofs
set_option linter.unusedSimpArgs false
set_option linter.unusedVariables false
abbrev cC : Int := 4611686018427387907
abbrev cP : Int := 9223372054034644997
abbrev W1 : List NM := [(true, [], [(cC, 2)], []), (true, [cC], [], [(cC, 1)])]
abbrev W2 : List NM := [(true, [], [(cC, 2)], []), (true, [cC], [(cP, 3)], [(cC, 1)]), (true, [cC, cP], [], [(cP, 2)])]
set_option maxRecDepth 100000
theorem wk1 : goC N00 1 cC true = 0 ∧ gon N00 1 cC true = 2 ∧ goL N00 1 cC true = W1 := ⟨by kernel_rfl, by kernel_rfl, by kernel_rfl⟩
theorem wk2 : goC W1 2 cP true = 0 ∧ gon W1 2 cP true = 3 ∧ goL W1 2 cP true = W2 := ⟨by kernel_rfl, by kernel_rfl, by kernel_rfl⟩
theorem wk3 : goC W2 3 cC false = 0 ∧ gon W2 3 cC false = 4 := ⟨by kernel_rfl, by kernel_rfl⟩
theorem wk4 : drC W2 2 = 0 ∧ iG (drL W2 2) = [1, 3] ∧ iG W2 = [1, 2, 3] := ⟨by kernel_rfl, by kernel_rfl, by kernel_rfl⟩
theorem goE_of {N : List NM} {E : List Ent} {n id : Int} {plus : Bool} (g : GR N) (hc : dD E = true) (hA : allM E = fC N) : goE N E n id plus = goC N n id plus := by unfold goE; rw [check_iff.2 ⟨g, hc, hA⟩]; rfl
theorem drE_of {N : List NM} {E : List Ent} {n : Int} (g : GR N) (hc : dD E = true) (hA : allM E = fC N) : drE N E n = drC N n := by unfold drE; rw [check_iff.2 ⟨g, hc, hA⟩]; rfl
theorem mY {N : List NM} {E : List Ent} (g : GR N) (hc : dD E = true) (hA : allM E = fC N) : nK N E = iG N := by unfold nK; rw [check_iff.2 ⟨g, hc, hA⟩]; rfl
theorem dr_GR {N : List NM} {n : Int} (g : GR N) (h : drC N n = 0) : GR (drL N n) := by
  unfold drC at h
  cases hi : isM N n with
  | false => rw [hi, Bool.false_and] at h; exact absurd h (by decide)
  | true =>
    obtain ⟨p, x, rfl, hx, hu⟩ := isM_true.1 hi
    by_cases h1 : (p : Int) + 1 = 1
    · rw [hi, decide_eq_true h1] at h; exact absurd h (by decide)
    · have e : drL N ((p : Int) + 1) = gB N p := by
        unfold drL drC
        rw [hi, decide_eq_false h1, show ((p : Int) + 1 - 1).toNat = p by omega]; rfl
      rw [e]
      exact drop_GR g hx hu (fun e => h1 (by rw [e]; rfl))
theorem slG {w0 w : World} {F : Nat → Prop} {L : List HP} {a : Option Addr} {n c : Nat} {qs : List QN} {N : List NM} (hs : St w0 F w L) (hq : qs.map gK = N) (hqo : ∀ q ∈ qs, okN q) (h1 : TabN a n c (qs.map rawN) ∈ L) (h2 : OwnN qs ∈ L) : Sl iL All w a n c N := Sl.to hq (slN hs h1 h2 hqo)
theorem GRes.goes {w w' : World} {N : List NM} {E : List Ent} {n id : Int} {plus : Bool} {k : Int} {N' : List NM} {mx : Nat} {v : Value} (r : GRes w (goE N E n id plus) (gon N n id plus) (goL N n id plus) mx v w') (g : GR N) (hc : dD E = true) (hA : allM E = fC N) (h1 : goC N n id plus = 0) (h2 : gon N n id plus = k) (h3 : goL N n id plus = N') :
    ∃ a' m' c' a2' m2 c2', v = .tuple #[.agg #[.slice a' m' c', .slice a2' m2 c2'], .int .i64 k, .int .i64 0] ∧ m' ≤ mx ∧ GOut w w' N' a' m' c' a2' m2 c2' := by
  rw [goE_of g hc hA, h2, h3] at r
  exact r.ok h1
attribute [local irreducible] Hold J JL JD JX JXat OpR OpG Ret RetV Is Blk Row
set_option maxHeartbeats 2000000
theorem comp3_r (w : World) : Ret Tryz.prog 91 #[.int .i64 3] w fun v w' => v = .tuple #[.int .u64 cC, .int .i64 0] ∧ Ext w w' := by
  refine cG (l := [_]) Tryz.func91 rfl Tryz.ntmps91 (by simp) ?_
  have hs := St.init w
  have h3 : inK .i64 (3 : Int) := by unfold inK; simp only [IntKind.min, IntKind.max, IntKind.bits, IntKind.signed]; omega
  have hin : [(3 : Int)].all (inB 1 24) = true := by decide
  repeat' (first | ((apply aK (t := 5); refine JL_o (by apply cR; exact cK hs rfl (by omega) rfl) rfl rfl ?_; rintro _ _ ⟨b5, rfl, hb5, hs, hE⟩; have hs := hs.toRow 0 1 1 1 (xs := [3].map (.int .i64)) (Nat.le_refl _) (by unfold maxLen; omega) (by decide) rfl)) | ((apply aV 165; refine JL_o (by exact aB tI rfl (jO _ 1 24 (some ⟨b5, 0, none⟩) 1 1 [3] ((RowV.sl (hs.row (some ⟨b5, 0, none⟩) 1 1) (fun v hv => by rw [List.mem_singleton.1 hv]; exact h3)).weak (fun _ _ => trivial)))) rfl rfl ?_; rintro _ _ ⟨rfl, hE⟩; rw [hin]; have hs := hs.ext hE; (try simp only [zcc] at hs))) | ((apply aV 166; refine JL_o (by exact aB vX rfl (kR _ 4611686018427387904 0 3 (.inr (.inl rfl)) (by omega) (by omega))) rfl rfl ?_; rintro _ _ ⟨rfl, hE⟩; have hs := hs.ext hE; (try simp only [zcc] at hs))) | (apply aS) | ((apply aJ); (first | (apply aQ; exact aH rfl aA) | (apply aF; exact aC rfl aA) | (apply cE; exact cF rfl aA)); first | (exact rfl; exact rfl) | exact rfl) | (apply bC) | (apply aG) | (apply bJ) | (apply aT; refine bT rfl gb ?_))
  refine aZ Tryz.func91 rfl (.tmp rfl (.tmp rfl .nil)) ⟨rfl, hs.frm.ext⟩
theorem pair45_r (w : World) : Ret Tryz.prog 92 #[.int .i64 4, .int .i64 5] w fun v w' => v = .tuple #[.int .u64 cP, .int .i64 0] ∧ Ext w w' := by
  refine cG (l := [_, _]) Tryz.func92 rfl Tryz.ntmps92 (by simp) ?_
  have hs := St.init w
  have h45 : ∀ v ∈ [(4 : Int), 5], inK .i64 v := fun v hv => by
    simp only [List.mem_cons, List.not_mem_nil, or_false] at hv
    unfold inK; simp only [IntKind.min, IntKind.max, IntKind.bits, IntKind.signed]; omega
  have hin : [(4 : Int), 5].all (inB 0 1048578) = true := by decide
  repeat' (first | ((apply aK (t := 8); refine JL_o (by apply cR; exact cK hs rfl (by omega) rfl) rfl rfl ?_; rintro _ _ ⟨b5, rfl, hb5, hs, hE⟩; have hs := hs.toRow 0 2 2 1 (xs := [4, 5].map (.int .i64)) (Nat.le_refl _) (by unfold maxLen; omega) (by decide) rfl)) | ((apply aV 165; refine JL_o (by exact aB tI rfl (jO _ 0 1048578 (some ⟨b5, 0, none⟩) 2 2 [4, 5] ((RowV.sl (hs.row (some ⟨b5, 0, none⟩) 2 2) h45).weak (fun _ _ => trivial)))) rfl rfl ?_; rintro _ _ ⟨rfl, hE⟩; rw [hin]; have hs := hs.ext hE; (try simp only [zcc] at hs))) | ((apply aV 166; refine JL_o (by exact aB vX rfl (kR _ 9223372036854775808 4 5 (.inr (.inr rfl)) (by omega) (by omega))) rfl rfl ?_; rintro _ _ ⟨rfl, hE⟩; have hs := hs.ext hE; (try simp only [zcc] at hs))) | (apply aS) | ((apply aJ); (first | (apply aQ; exact aH rfl aA) | (apply aF; exact aC rfl aA) | (apply cE; exact cF rfl aA)); first | (exact rfl; exact rfl) | exact rfl) | (apply bC) | (apply aG) | (apply bJ) | (apply aT; refine bT rfl gb ?_))
  refine aZ Tryz.func92 rfl (.tmp rfl (.tmp rfl .nil)) ⟨rfl, hs.frm.ext⟩
theorem uP (w : World) (a1 a2 : Option Addr) (n1 c1 n2 c2 : Nat) (xs ys : List Int) (h1 : Sl (tInt .i64) All w a1 n1 c1 xs) (h2 : Sl (tInt .i64) All w a2 n2 c2 ys) :
    Ret Tryz.prog 48 #[.slice a1 n1 c1, .slice a2 n2 c2] w fun v w' => v = .bool (decide (xs = ys)) ∧ Ext w w' := by
  refine cG (l := [_, _]) Tryz.func48 rfl Tryz.ntmps48 (by simp) ?_
  have hs := St.init w
  have hl1 := h1.len
  have hl2 := h2.len
  have hmx : n1 ≤ 9223372036854775807 := by have h3 := h1.le; have h4 := h1.cap; unfold maxLen at h4; omega
  by_cases hn : n1 = n2
  · subst hn
    repeat' (first | (apply aS) | ((apply aJ); (first | (apply aQ; exact aH rfl aA) | (apply aF; exact aC rfl aA) | (apply aL; exact aN rfl rfl rfl aA) | (apply bK; exact bX rfl aA)); first | (exact rfl; exact rfl) | exact rfl) | (apply bC) | (apply aG) | (apply bD) | (apply bJ) | (apply aT; refine bN rfl ob ?_))
    refine dF (α := Nat) [(0, _), (1, _), (12, _)] (fun k => [(13, .int .i64 k)]) (fun k w' => St w NoF w' [] ∧ k ≤ n1 ∧ xs.take k = ys.take k) (fun k => n1 - k) 0 ⟨hs, Nat.zero_le _, rfl⟩ zss ?_
    rintro k w2 ⟨hs1, hk, heq⟩ ih
    have hs : St w NoF w2 [] := hs1
    by_cases hlt : k < n1
    · obtain ⟨p, o, rfl⟩ := h1.sl.addr (by omega)
      obtain ⟨p2, o2, rfl⟩ := h2.sl.addr (by omega)
      have hs : St w NoF w2 [] := hs1
      have hx : xs[k]? = some (xs[k]'(by omega)) := List.getElem?_eq_getElem (by omega)
      have hy : ys[k]? = some (ys[k]'(by omega)) := List.getElem?_eq_getElem (by omega)
      obtain ⟨x, hxd⟩ : ∃ x, x = xs[k]'(by omega) := ⟨_, rfl⟩
      obtain ⟨y, hyd⟩ : ∃ y, y = ys[k]'(by omega) := ⟨_, rfl⟩
      rw [← hxd] at hx
      rw [← hyd] at hy
      by_cases hc : x = y
      · have hc2 : x = y := hc
        repeat' (first | (apply aS) | ((first | (apply aJ) | (apply JX_f; exact rfl; intro W X hs)); (first | (apply aW; first | exact cD (b := p) (o := o) (i := k) (j := 0) (h1.st hs) hx rfl rfl rfl aA | exact cD (b := p2) (o := o2) (i := k) (j := 0) (h2.st hs) hy rfl rfl rfl aA) | (apply aQ; exact aH rfl aA) | (apply aF; exact aC rfl aA) | (apply cJ; exact bV rfl rfl (by omega) (by first | (simp only [Int.reduceAdd]; exact rfl) | exact rfl) aA) | (apply aL; exact aN rfl rfl rfl aA) | (apply aP; exact aO rfl rfl (by omega) (by omega) aA)); first | (exact rfl; exact rfl) | exact rfl) | (apply bC) | (apply aG) | (apply bD) | (apply bO) | (apply bJ) | (apply aT; first | refine bI rfl ob ?_ | refine bN rfl ob ?_) | (apply cW; (refine dC (id := 6) [0, 0, 3, 7, 0, 0, 48, 112, 255] [(0, 0), (1, 0), (2, 0), (3, 0), (4, 0), (5, 0), (6, 0), (7, 0), (8, 0)] [] hs eJ (by kernel_rfl) (by kernel_rfl) (by kernel_rfl) (by kernel_rfl) (by kernel_rfl) ?_)) | (refine cV (fun W hs => ?_)) | (apply dI))
        refine ih (k + 1) _ _ ⟨hs, hlt, mJ hx (by rw [hc]; exact hy) heq⟩ (by omega) zss
      · have hc2 : ¬ x = y := hc
        repeat' (first | (apply aS) | ((first | (apply aJ) | (apply JX_f; exact rfl; intro W X hs)); (first | (apply aW; first | exact cD (b := p) (o := o) (i := k) (j := 0) (h1.st hs) hx rfl rfl rfl aA | exact cD (b := p2) (o := o2) (i := k) (j := 0) (h2.st hs) hy rfl rfl rfl aA) | (apply aQ; exact aH rfl aA) | (apply aF; exact aC rfl aA) | (apply aL; exact aN rfl rfl rfl aA) | (apply aP; exact aO rfl rfl (by omega) (by omega) aA)); first | (exact rfl; exact rfl) | exact rfl) | (apply bC) | (apply aG) | (apply bD) | (apply bJ) | (apply aT; refine bI rfl ob ?_) | (apply cW; (refine dC (id := 6) [0, 0, 3, 7, 0, 0, 48, 112, 255] [(0, 0), (1, 0), (2, 0), (3, 0), (4, 0), (5, 0), (6, 0), (7, 0), (8, 0)] [] hs eJ (by kernel_rfl) (by kernel_rfl) (by kernel_rfl) (by kernel_rfl) (by kernel_rfl) ?_)) | (refine cV (fun W hs => ?_)) | (apply dI))
        refine aZ Tryz.func48 rfl (.tmp rfl .nil) ⟨congrArg Value.bool (decide_eq_false fun e => hc (by subst e; rw [hx] at hy; exact Option.some.inj hy)).symm, hs.frm.ext⟩
    · rw [List.take_of_length_le (by omega), List.take_of_length_le (by omega)] at heq
      repeat' (first | (apply aS) | ((apply aJ); (first | (apply aF; exact aC rfl aA) | (apply aL; exact aN rfl rfl rfl aA)); first | (exact rfl; exact rfl) | exact rfl) | (apply bC) | (apply aG) | (apply cI; refine cY rfl ?_) | (apply aT; refine bN rfl ob ?_))
      refine aZ Tryz.func48 rfl (.tmp rfl .nil) ⟨congrArg Value.bool (decide_eq_true heq).symm, hs.frm.ext⟩
  · repeat' (first | (apply aS) | ((apply aJ); (first | (apply aQ; exact aH rfl aA) | (apply aF; exact aC rfl aA) | (apply aL; exact aN rfl rfl rfl aA) | (apply bK; exact bX rfl aA)); first | (exact rfl; exact rfl) | exact rfl) | (apply bC) | (apply aG) | (apply aT; refine bI rfl ob ?_))
    refine aZ Tryz.func48 rfl (.tmp rfl .nil) ⟨congrArg Value.bool (decide_eq_false fun e => hn (by rw [← hl1, ← hl2, e])).symm, hs.frm.ext⟩
theorem oC (w : World) : Ret Tryz.prog 30 #[] w fun v w' => v = .bool true ∧ Ext w w' := by
  refine cG (l := []) Tryz.func30 rfl Tryz.ntmps30 (by simp) ?_
  have hs := St.init w
  obtain ⟨a1, a2, a3⟩ := wk1
  obtain ⟨b1, b2, b3⟩ := wk2
  obtain ⟨c1, c2⟩ := wk3
  obtain ⟨d1, d2, d3⟩ := wk4
  have g0 := gr_new
  have g1 : GR W1 := by have := go_GR g0 a1; rw [a3] at this; exact this
  have g2 : GR W2 := by have := go_GR g1 b1; rw [b3] at this; exact this
  have z0 : szN N00 := by decide
  have z1 : szN W1 := by decide
  have z2 : szN W2 := by decide
  have i1 : inK .i64 (1 : Int) := by unfold inK; simp only [IntKind.min, IntKind.max, IntKind.bits, IntKind.signed]; omega
  have i2 : inK .i64 (2 : Int) := by unfold inK; simp only [IntKind.min, IntKind.max, IntKind.bits, IntKind.signed]; omega
  have i3 : inK .i64 (3 : Int) := by unfold inK; simp only [IntKind.min, IntKind.max, IntKind.bits, IntKind.signed]; omega
  have iC : okId cC := by show inK .u64 (4611686018427387907 : Int); unfold inK; simp only [IntKind.min, IntKind.max, IntKind.bits, IntKind.signed]; omega
  have iP : okId cP := by show inK .u64 (9223372054034644997 : Int); unfold inK; simp only [IntKind.min, IntKind.max, IntKind.bits, IntKind.signed]; omega
  have g4 : GR (drL W2 2) := dr_GR g2 d1
  have z4 : szN (drL W2 2) := by decide
  have h13 : ∀ v ∈ [(1 : Int), 3], inK .i64 v := fun v hv => by
    simp only [List.mem_cons, List.not_mem_nil, or_false] at hv
    unfold inK; simp only [IntKind.min, IntKind.max, IntKind.bits, IntKind.signed]; omega
  have h123 : ∀ v ∈ [(1 : Int), 2, 3], inK .i64 v := fun v hv => by
    simp only [List.mem_cons, List.not_mem_nil, or_false] at hv
    unfold inK; simp only [IntKind.min, IntKind.max, IntKind.bits, IntKind.signed]; omega
  repeat' (first | ((apply aV 91; refine JL_o (by exact aB en91 rfl (comp3_r _)) rfl rfl ?_; rintro _ _ ⟨rfl, hE⟩; have hs := hs.ext hE; (try simp only [zcc] at hs))) | ((apply aV 92; refine JL_o (by exact aB en92 rfl (pair45_r _)) rfl rfl ?_; rintro _ _ ⟨rfl, hE⟩; have hs := hs.ext hE; (try simp only [zcc] at hs))) | ((apply aV 54; refine JL_o (by exact aB en54 rfl (gnew_r _)) rfl rfl ?_; rintro _ _ ⟨t1, u1, t2, m2, u2, rfl, qs0, es0, rs0, ⟨hq0, ho0⟩, ⟨he0, hA0⟩, ⟨hl0, hm0, hx0⟩, hf⟩; have hs := hs.fresh hf; (try simp only [zcc] at hs))) | ((apply aV 35; refine JL_o (by exact aB en35 rfl ((xZ _ t1 t2 1 u1 m2 u2 N00 es0 1 cC (slG hs hq0 ho0 zmm zmm) (iS hs zmm zmm) (by omega) hx0 z0 i1 iC).mono (fun _ _ r => r.goes g0 he0 hA0 a1 a2 a3))) rfl rfl ?_; rintro _ _ ⟨t3, k3, u3, t4, m4, u4, rfl, hk3, qs1, es1, rs1, ⟨hq1, ho1⟩, ⟨he1, hA1⟩, ⟨hl1, hm1, hx1⟩, hf⟩; have hs := hs.fresh hf; (try simp only [zcc] at hs))) | ((apply aV 35; refine JL_o (by exact aB en35 rfl ((xZ _ t3 t4 k3 u3 m4 u4 W1 es1 2 cP (slG hs hq1 ho1 zmm zmm) (iS hs zmm zmm) (by omega) hx1 z1 i2 iP).mono (fun _ _ r => r.goes g1 he1 hA1 b1 b2 b3))) rfl rfl ?_; rintro _ _ ⟨t5, k5, u5, t6, m6, u6, rfl, hk5, qs2, es2, rs2, ⟨hq2, ho2⟩, ⟨he2, hA2⟩, ⟨hl2, hm2, hx2⟩, hf⟩; have hs := hs.fresh hf; (try simp only [zcc] at hs))) | ((apply aV 36; refine JL_o (by exact aB en36 rfl ((gless_r _ t5 t6 k5 u5 m6 u6 W2 es2 3 cC (slG hs hq2 ho2 zmm zmm) (iS hs zmm zmm) (by omega) hx2 z2 i3 iC).mono (fun _ _ r => r.goes g2 he2 hA2 c1 c2 rfl))) rfl rfl ?_; rintro _ _ ⟨t7, k7, u7, t8, m8, u8, rfl, hk7, qs3, es3, rs3, ⟨hq3, ho3⟩, ⟨he3, hA3⟩, ⟨hl3, hm3, hx3⟩, hf⟩; have hs := hs.fresh hf; (try simp only [zcc] at hs))) | ((apply aV 38; refine JL_o (by exact aB en38 rfl (((qE _ t5 t6 k5 u5 m6 u6 W2 es2 2 (slG hs hq2 ho2 zmm zmm) (iS hs zmm zmm) (by omega) hx2 z2 i2).mono (fun _ _ r => r.resolve_left (fun e => e.1 (by rw [drE_of g2 he2 hA2]; exact d1)))))) rfl rfl ?_; rintro _ _ ⟨_, t9, k9, u9, t10, m10, u10, rfl, hk9, qs4, es4, rs4, ⟨hq4, ho4⟩, ⟨he4, hA4⟩, ⟨hl4, hm4, hx4⟩, hf⟩; have hs := hs.fresh hf; (try simp only [zcc] at hs))) | ((apply cS 49; refine cZ rfl gb (by exact aB en49 rfl ((qF _ t9 t10 k9 u9 m10 u10 (drL W2 2) es4 (slG hs hq4 ho4 zmm zmm) (iS hs zmm zmm) (by omega) hx4 z4).mono (fun _ _ r => by rw [mY g4 he4 hA4, d2] at r; exact r))) rfl rfl ?_; rintro _ _ ⟨t11, u11, rfl, hf⟩; have hs := hs.fresh hf; (try simp only [zcc] at hs))) | ((refine cZ (t := 81) rfl gb (by apply cR; exact cK hs rfl (by omega) rfl) rfl rfl ?_; rintro _ _ ⟨q1, rfl, hq1b, hs, hE⟩; have hs := hs.toRow 0 2 2 1 (xs := [(1 : Int), 3].map (.int .i64)) (Nat.le_refl _) (by unfold maxLen; omega) (by decide) rfl)) | ((apply cS 48; refine cZ rfl gb (by exact aB en48 rfl (uP _ t11 (some ⟨q1, 0, none⟩) 2 u11 2 2 [1, 3] [1, 3] ((RowV.sl (hs.row t11 2 u11) h13).weak (fun _ _ => trivial)) ((RowV.sl (hs.row (some ⟨q1, 0, none⟩) 2 2) h13).weak (fun _ _ => trivial)))) rfl rfl ?_; rintro _ _ ⟨rfl, hE⟩; have hs := hs.ext hE; (try simp only [zcc] at hs))) | ((apply cS 49; refine cZ rfl gb (by exact aB en49 rfl ((qF _ t5 t6 k5 u5 m6 u6 W2 es2 (slG hs hq2 ho2 zmm zmm) (iS hs zmm zmm) (by omega) hx2 z2).mono (fun _ _ r => by rw [mY g2 he2 hA2, d3] at r; exact r))) rfl rfl ?_; rintro _ _ ⟨t12, u12, rfl, hf⟩; have hs := hs.fresh hf; (try simp only [zcc] at hs))) | ((refine cZ (t := 87) rfl gb (by apply cR; exact cK hs rfl (by omega) rfl) rfl rfl ?_; rintro _ _ ⟨q2, rfl, hq2b, hs, hE⟩; have hs := hs.toRow 0 3 3 1 (xs := [(1 : Int), 2, 3].map (.int .i64)) (Nat.le_refl _) (by unfold maxLen; omega) (by decide) rfl)) | ((apply cS 48; refine cZ rfl gb (by exact aB en48 rfl (uP _ t12 (some ⟨q2, 0, none⟩) 3 u12 3 3 [1, 2, 3] [1, 2, 3] ((RowV.sl (hs.row t12 3 u12) h123).weak (fun _ _ => trivial)) ((RowV.sl (hs.row (some ⟨q2, 0, none⟩) 3 3) h123).weak (fun _ _ => trivial)))) rfl rfl ?_; rintro _ _ ⟨rfl, hE⟩; have hs := hs.ext hE; (try simp only [zcc] at hs))) | (apply aS) | ((first | (apply aJ) | (apply bW; exact rfl; exact gb)); (first | (apply aQ; exact aH rfl aA) | (apply aF; exact aC rfl aA) | (apply aW; exact aI hs rfl aA) | (apply aL; exact aN rfl rfl rfl aA) | (apply cB; exact bS rfl gb rfl aA) | (apply bR; exact bM rfl rfl aA)); first | (exact rfl; exact rfl) | exact rfl) | (apply bC) | (apply aG) | (apply aK (t := 5); refine JL_o (by apply bB; exact aU hs) rfl rfl ?_; rintro _ _ ⟨b5, rfl, hb5, hs, hE⟩) | (apply aK (t := 8); refine JL_o (by apply bB; exact aU hs) rfl rfl ?_; rintro _ _ ⟨b8, rfl, hb8, hs, hE⟩) | (apply aK (t := 11); refine JL_o (by apply bB; exact aU hs) rfl rfl ?_; rintro _ _ ⟨b11, rfl, hb11, hs, hE⟩) | (apply aK (t := 14); refine JL_o (by apply bB; exact aU hs) rfl rfl ?_; rintro _ _ ⟨b14, rfl, hb14, hs, hE⟩) | (apply bG; refine JL_u (by apply bA; exact aY hs rfl rfl rfl) rfl ?_; rintro _ _ ⟨hs, hF⟩))
  refine aZ Tryz.func30 rfl (.tmp rfl .nil) ⟨rfl, hs.frm.ext⟩
end Go.Eng
end
section
namespace Go.Eng
open Go.Proofs
set_option linter.unusedSimpArgs false
set_option linter.unusedVariables false
def cutN (x : NM) : NM := (x.1, x.2.1.take 14, x.2.2.1.take 20, x.2.2.2.take 20)
def mW (N : List NM) : List NM := (N.take 30).map cutN
def rL (E : List Ent) : List Ent := (E.take 128).map cutE
theorem xJ (N : List NM) : (mW N).length ≤ 30 := by unfold mW; rw [List.length_map, List.length_take]; omega
theorem xK (E : List Ent) : (rL E).length ≤ 128 := by unfold rL; rw [List.length_map, List.length_take]; omega
def tiny (k : Nat) (N : List NM) : Prop := N.length ≤ 30 + k ∧ ∀ x ∈ N, x.2.1.length ≤ 14 + k ∧ x.2.2.1.length ≤ 20 + k ∧ x.2.2.2.length ≤ 20 + k
theorem vM (N : List NM) : tiny 0 (mW N) := ⟨xJ N, fun x hx => by
  unfold mW at hx
  obtain ⟨y, _, rfl⟩ := List.mem_map.1 hx
  unfold cutN
  refine ⟨?_, ?_, ?_⟩
  · show (y.2.1.take 14).length ≤ _; rw [List.length_take]; omega
  · show (y.2.2.1.take 20).length ≤ _; rw [List.length_take]; omega
  · show (y.2.2.2.take 20).length ≤ _; rw [List.length_take]; omega⟩
theorem tiny.sz {k : Nat} {N : List NM} (h : tiny k N) (hk : k ≤ 1000) : szN N := fun x hx => by
  obtain ⟨h1, h2, h3⟩ := h.2 x hx
  exact ⟨by omega, by omega, by omega⟩
theorem Sl.cutM {α : Type} {d : Ty α} {R : Nat → Prop} {w : World} {a : Option Addr} {n c : Nat} {xs : List α} (h : Sl d R w a n c xs) (m : Nat) : Sl d R w a (min n m) c (xs.take m) := by
  have h1 := h.cut (min n m) (Nat.min_le_left _ _)
  have hl := h.len
  have e : xs.take (min n m) = xs.take m := by rw [← hl, Nat.min_comm, ← List.take_eq_take_min]
  rwa [e] at h1
attribute [local irreducible] Hold J JL JD JX JXat OpR OpG Ret RetV Is Blk Row
set_option maxRecDepth 100000
set_option maxHeartbeats 2000000
theorem tC (w : World) (a a2 : Option Addr) (n c n2 c2 : Nat) (N : List NM) (E : List Ent) (h : Sl iL All w a n c N) (hE0 : Sl dEnt All w a2 n2 c2 E) :
    Ret Tryz.prog 31 #[.agg #[.slice a n c, .slice a2 n2 c2]] w fun v w' => ∃ (qs : List QN) (rs' : List REnt) (a' a2' : Option Addr) (c' c2' : Nat), (qs.map gK = mW N ∧ ∀ q ∈ qs, okN q) ∧ v = .agg #[.slice a' (mW N).length c', .slice a2' (rL E).length c2'] ∧ Fresh w w' [TabN a' (mW N).length c' (qs.map rawN), OwnN qs, dE a2' (rL E).length c2' rs', Own rs' (rL E)] := by
  refine cG (l := [_]) Tryz.func31 rfl Tryz.ntmps31 (by simp) ?_
  have hs := St.init w
  have hcap1 : n ≤ 9223372036854775807 := by have h1 := h.le; have h2 := h.cap; unfold maxLen at h2; omega
  have hcap2 : n2 ≤ 9223372036854775807 := by have h1 := hE0.le; have h2 := hE0.cap; unfold maxLen at h2; omega
  have hle1 := h.le
  have hle2 := hE0.le
  have h := h.cutM 30
  have hE0 := hE0.cutM 128
  have hl := h.len
  have hl2 := hE0.len
  have hNo := rF h
  have hEo := mZ hE0
  obtain ⟨N1, hN1⟩ : ∃ N1, N1 = N.take 30 := ⟨_, rfl⟩
  obtain ⟨E1, hE1⟩ : ∃ E1, E1 = E.take 128 := ⟨_, rfl⟩
  have eN : mW N = N1.map cutN := by unfold mW; rw [hN1]
  have eE : rL E = E1.map cutE := by unfold rL; rw [hE1]
  rw [← hN1] at h hl hNo
  rw [← hE1] at hE0 hl2 hEo
  rw [eN, eE]
  clear eN eE hN1 hE1
  obtain ⟨k1, hk1⟩ : ∃ k1, k1 = min n 30 := ⟨_, rfl⟩
  obtain ⟨k2, hk2⟩ : ∃ k2, k2 = min n2 128 := ⟨_, rfl⟩
  rw [← hk1] at h hl
  rw [← hk2] at hE0 hl2
  obtain ⟨rs, hr, hm⟩ := Sl.raw (D := mV) h
  obtain ⟨re, hre, hme⟩ := Sl.raw (D := kY) hE0
  have hlr := hr.len
  have hlre := hre.len
  repeat' (first | (apply aS) | ((apply aJ); (first | (apply dP; exact eB (q := k1) rfl rfl (by omega) (by omega) aA) | (apply aQ; exact aH rfl aA) | (apply aR; exact aM rfl rfl aA) | (apply aW; exact aX hs rfl rfl aA) | (apply bK; exact bX rfl aA) | (apply nG; exact qR rfl rfl aA)); first | (exact rfl; exact rfl) | exact rfl) | (apply bC) | (apply aG) | (apply bD) | (apply aK (t := 1); refine JL_o (by apply bZ; exact bH hs rfl) rfl rfl ?_; rintro _ _ ⟨b1, rfl, hb1, hs, hE⟩) | (apply aK (t := 2); refine JL_o (by apply bB; exact aU hs) rfl rfl ?_; rintro _ _ ⟨b2, rfl, hb2, hs, hE⟩) | (apply aK (t := 3); refine JL_o (by apply bB; exact aU hs) rfl rfl ?_; rintro _ _ ⟨b3, rfl, hb3, hs, hE⟩))
  have hs := hs.nilN.nilRow 79 4
  refine dF (α := Nat × List QN × Option Addr × Nat) [(1, _), (2, _), (3, _), (14, _), (15, _)] (fun g => [(16, .int .i64 g.1)])
    (fun g w' => St w NoF w' [TabN g.2.2.1 g.1 g.2.2.2 (g.2.1.map rawN), OwnN g.2.1, Blk b3 (.cells #[.slice g.2.2.1 g.1 g.2.2.2, .slice none 0 0] 57 (0, 0)), Blk b2 (.cells #[.slice none 0 0, .slice none 0 0] 57 (0, 0)), Blk b1 (.cells #[.slice a n c, .slice a2 n2 c2] 57 (0, 0))] ∧ (g.2.1.map gK = (N1.take g.1).map cutN ∧ ∀ q ∈ g.2.1, okN q) ∧ g.1 ≤ k1)
    (fun g => k1 - g.1) (0, [], none, 0) ⟨hs, ⟨rfl, fun q hq => by cases hq⟩, Nat.zero_le _⟩ zss ?_
  rintro ⟨k, qs, a', c'⟩ w2 ⟨hs1, ⟨hqm, hqo⟩, hk⟩ ih
  dsimp only at hs1 hqm hqo hk ih ⊢
  have hql : qs.length = k := by have := congrArg List.length hqm; rw [List.length_map, List.length_map, List.length_take] at this; omega
  by_cases hlt : k < k1
  · obtain ⟨p, o, rfl⟩ := hr.sl.addr (by omega)
    have hs : St w NoF w2 [_, _, _, _, _] := hs1
    have hx : N1[k]? = some (N1[k]'(by omega)) := List.getElem?_eq_getElem (by omega)
    obtain ⟨x, hxd⟩ : ∃ x, x = N1[k]'(by omega) := ⟨_, rfl⟩
    rw [← hxd] at hx
    obtain ⟨o1, o2, o3⟩ := hNo x (List.mem_of_getElem? hx)
    obtain ⟨r, hrx, f1, f2, f3, f4⟩ := hm.get hx
    have f1 : r.1 = x.1 := f1
    have m1 : Sl dId All w r.2.1.1 r.2.1.2.1 r.2.1.2.2 x.2.1 := f2
    have m2 : Sl dStp All w r.2.2.1.1 r.2.2.1.2.1 r.2.2.1.2.2 x.2.2.1 := f3
    have m3 : Sl dStp All w r.2.2.2.1 r.2.2.2.2.1 r.2.2.2.2.2 x.2.2.2 := f4
    have l1 := m1.le
    have l2 := m2.le
    have l3 := m3.le
    have m1 := m1.cutM 14
    have m2 := m2.cutM 20
    have m3 := m3.cutM 20
    obtain ⟨q1, hq1⟩ : ∃ q, q = min r.2.1.2.1 14 := ⟨_, rfl⟩
    obtain ⟨q2, hq2⟩ : ∃ q, q = min r.2.2.1.2.1 20 := ⟨_, rfl⟩
    obtain ⟨q3, hq3⟩ : ∃ q, q = min r.2.2.2.2.1 20 := ⟨_, rfl⟩
    rw [← hq1] at m1
    rw [← hq2] at m2
    rw [← hq3] at m3
    have g1 := m1.len
    have g2 := m2.len
    have g3 := m3.len
    repeat' (first | ((apply ax_c; apply jY 24; exact rfl; (intro W X hN hs; exact aB en24 rfl (lS _ r.2.1.1 q1 r.2.1.2.2 (x.2.1.take 14) (m1.st hs) (by omega))); (rintro _ _ _ _ ⟨a5, c5, rfl, hf⟩; first | exact hE | exact Fresh.ext hf); rintro W X _ _ hN hs ⟨a5, c5, rfl, hf⟩; have hs := hs.fresh hf; (try simp only [zcc] at hs); refine JX.at hs ?_)) | ((apply ax_c; apply jY 93; exact rfl; (intro W X hN hs; exact aB en93 rfl (uS _ r.2.2.1.1 q2 r.2.2.1.2.2 (x.2.2.1.take 20) (m2.st hs) (by omega))); (rintro _ _ _ _ ⟨a6, c6, rfl, hf⟩; first | exact hE | exact Fresh.ext hf); rintro W X _ _ hN hs ⟨a6, c6, rfl, hf⟩; have hs := hs.fresh hf; (try simp only [zcc] at hs); refine JX.at hs ?_)) | ((apply ax_c; apply jY 93; exact rfl; (intro W X hN hs; exact aB en93 rfl (uS _ r.2.2.2.1 q3 r.2.2.2.2.2 (x.2.2.2.take 20) (m3.st hs) (by omega))); (rintro _ _ _ _ ⟨a7, c7, rfl, hf⟩; first | exact hE | exact Fresh.ext hf); rintro W X _ _ hN hs ⟨a7, c7, rfl, hf⟩; have hs := hs.fresh hf; (try simp only [zcc] at hs); refine JX.at hs ?_)) | ((apply aK (t := 51); refine JL_o (by apply dL; exact fI (xs := encL cNd (qs.map rawN)) (news := cNd (r.1, (a5, q1, c5), (a6, q2, c6), (a7, q3, c7))) hs rfl rfl (tY (r := (r.1, (a5, q1, c5), (a6, q2, c6), (a7, q3, c7))) (hs.blk (b := b50))) eX rfl (by omega) (by unfold maxLen; omega)) rfl rfl ?_; rintro _ _ ⟨a8, c8, rfl, hs, hF, hnil⟩)) | (apply aS) | ((first | (apply aJ) | (apply JX_f; exact rfl; intro W X hs)); (first | (apply dP; first | exact eB (q := q1) rfl rfl (by omega) (by omega) aA | exact eB (q := q2) rfl rfl (by omega) (by omega) aA | exact eB (q := q3) rfl rfl (by omega) (by omega) aA) | (apply aW; first | exact aX hs rfl rfl aA | exact aI hs rfl aA | exact bF (hr.st hs) hrx rfl rfl aA) | (apply aQ; exact aH rfl aA) | (apply aR; exact aM rfl rfl aA) | (apply cJ; exact bV rfl rfl (by omega) (by first | (simp only [Int.reduceAdd]; exact rfl) | exact rfl) aA) | (apply aL; exact aN rfl rfl rfl aA) | (apply bK; exact bX rfl aA) | (apply nG; exact qR rfl rfl aA) | (apply aP; exact aO rfl rfl (by omega) (by omega) aA)); first | (exact rfl; exact rfl) | exact rfl) | (apply bC) | (apply aG) | (apply bD) | (apply bO) | (apply bJ) | (apply aK (t := 5); refine JL_o (by apply bB; exact aU hs) rfl rfl ?_; rintro _ _ ⟨b5, rfl, hb5, hs, hE⟩) | (apply aK (t := 50); refine JL_o (by apply cR; exact cK hs rfl (by omega) rfl) rfl rfl ?_; rintro _ _ ⟨b50, rfl, hb50, hs, hE⟩) | (apply bG; refine JL_u (by apply bA; exact aY hs rfl rfl rfl) rfl ?_; rintro _ _ ⟨hs, hF⟩) | (apply aT; refine bI rfl ob ?_) | (apply cW; (refine dC (id := 5) [0, 1, 0, 4, 12, 28, 63, 127, 0, 256, 0, 1024, 3072, 7168, 16128, 32767, 0, 65536, 0, 262144, 786432, 1835008, 4128768, 8388607, 987135, 33554431, 67108863, 134217727, 268435455, 536870911] [(0, 0), (1, 0), (2, 0), (3, 0), (4, 0), (5, 0), (6, 0), (8, 0), (9, 0), (10, 0), (11, 0), (12, 0), (13, 0), (14, 0), (16, 0), (17, 0), (18, 0), (19, 0), (20, 0), (21, 0), (22, 0), (7, 1), (24, 0), (15, 1), (23, 1)] [25, 26, 27, 28, 29] hs eJ (by kernel_rfl) (by kernel_rfl) (by kernel_rfl) (by kernel_rfl) (by kernel_rfl) ?_)) | (refine cV (fun W hs => ?_)) | (apply fN; case' hos => (simp only [List.map_cons, List.map_nil, List.getElem?_toArray, List.getElem?_cons_succ, List.getElem?_cons_zero]; repeat' (first | exact gT | apply fL))))
    rw [tW, rR] at hs
    obtain ⟨q, hq⟩ : ∃ q : QN, q = (r.1, ((a5, q1, c5), x.2.1.take 14), ((a6, q2, c6), x.2.2.1.take 20), ((a7, q3, c7), x.2.2.2.take 20)) := ⟨_, rfl⟩
    have hs := St.packN (q := (r.1, ((a5, q1, c5), x.2.1.take 14), ((a6, q2, c6), x.2.2.1.take 20), ((a7, q3, c7), x.2.2.2.take 20))) (L := [OwnN qs, _, _, _, _]) (hs.sel [3, 2, 1, 6, 5, 7, 8, 9] (by decide))
    rw [← hq] at hs
    have hs := St.pushN hs
    have hmp : (qs ++ [q]).map rawN = qs.map rawN ++ [(r.1, (a5, q1, c5), (a6, q2, c6), (a7, q3, c7))] := by rw [List.map_append, hq]; rfl
    have hqok : okN q := by rw [hq]; exact ⟨⟨g1.symm, fun u hu => o1 u (List.mem_of_mem_take hu)⟩, ⟨g2.symm, fun u hu => o2 u (List.mem_of_mem_take hu)⟩, ⟨g3.symm, fun u hu => o3 u (List.mem_of_mem_take hu)⟩⟩
    have hqm2 : gK q = cutN x := by rw [hq]; exact nm_eq.2 ⟨f1, rfl, rfl, rfl⟩
    have htk : N1.take (k + 1) = N1.take k ++ [x] := by rw [List.take_add_one, hx]; rfl
    refine ih (k + 1, qs ++ [q], a8, c8) _ _ ⟨by dsimp only; rw [hmp]; exact hs.sel [1, 0, 2, 3, 4] (by decide), ⟨by dsimp only; rw [List.map_append, hqm, htk, List.map_append]; rw [List.map_cons, hqm2]; rfl, fun u hu => ?_⟩, by dsimp only; omega⟩ (by dsimp only; omega) zss
    rcases List.mem_append.1 hu with e | e
    · exact hqo u e
    · rw [List.mem_singleton.1 e]; exact hqok
  · have hkn : k = k1 := by omega
    subst hkn
    rw [List.take_of_length_le (by omega)] at hqm
    have hs : St w NoF w2 [_, _, _, _, _] := hs1
    repeat' (first | (apply aS) | ((apply aJ); (first | (apply dP; exact eB (q := k2) rfl rfl (by omega) (by omega) aA) | (apply aQ; exact aH rfl aA) | (apply aR; first | exact aM rfl rfl aA | exact bL rfl rfl aA) | (apply aW; exact aX hs rfl rfl aA) | (apply aL; exact aN rfl rfl rfl aA) | (apply bK; exact bX rfl aA) | (apply nG; exact qR rfl rfl aA)); first | (exact rfl; exact rfl) | exact rfl) | (apply bC) | (apply aG) | (apply bD) | (apply cI; refine cY rfl ?_) | (apply aT; refine bN rfl ob ?_))
    clear ih
    have hs := hs.nilOwn.nilRow 139 3
    refine dF (α := Nat × List REnt × Option Addr × Nat) [(2, _), (3, _), (62, _), (63, _)] (fun g => [(64, .int .i64 g.1)])
      (fun g w' => St w NoF w' [dE g.2.2.1 g.1 g.2.2.2 g.2.1, Own g.2.1 ((E1.take g.1).map cutE), TabN a' k c' (qs.map rawN), OwnN qs, Blk b3 (.cells #[.slice a' k c', .slice g.2.2.1 g.1 g.2.2.2] 57 (0, 0)), Blk b2 (.cells #[.slice none 0 0, .slice none 0 0] 57 (0, 0)), Blk b1 (.cells #[.slice a n c, .slice a2 n2 c2] 57 (0, 0))] ∧ g.1 ≤ k2)
      (fun g => k2 - g.1) (0, [], none, 0) ⟨hs, Nat.zero_le _⟩ zss ?_
    rintro ⟨j, ro, a4, c4⟩ w3 ⟨hs2, hj⟩ ih
    dsimp only at hs2 hj ih ⊢
    by_cases hlt2 : j < k2
    · obtain ⟨p, o, rfl⟩ := hre.sl.addr (by omega)
      have hs : St w NoF w3 [_, _, _, _, _, _, _] := hs2
      have hx : E1[j]? = some (E1[j]'(by omega)) := List.getElem?_eq_getElem (by omega)
      obtain ⟨x, hxd⟩ : ∃ x, x = E1[j]'(by omega) := ⟨_, rfl⟩
      rw [← hxd] at hx
      obtain ⟨r, hrx, hrel⟩ := hme.get hx
      obtain ⟨o1, o2, o3⟩ := hEo x (List.mem_of_getElem? hx)
      have e1 : r.1 = x.1 := hrel.1
      have e3 : r.2.2 = x.2.2 := hrel.2.2
      have m1 : Sl dId All w r.2.1.1 r.2.1.2.1 r.2.1.2.2 x.2.1 := hrel.2.1
      have l1 := m1.le
      have m1 := m1.cutM 14
      obtain ⟨q1, hq1⟩ : ∃ q, q = min r.2.1.2.1 14 := ⟨_, rfl⟩
      rw [← hq1] at m1
      have g1 := m1.len
      repeat' (first | ((apply aV 24; refine JL_o (by exact aB en24 rfl (lS _ r.2.1.1 q1 r.2.1.2.2 (x.2.1.take 14) (m1.st hs) (by omega))) rfl rfl ?_; rintro _ _ ⟨a5, c5, rfl, hf⟩; have hs := hs.fresh hf; (try simp only [zcc] at hs))) | ((apply aK (t := 82); refine JL_o (by apply dL; exact fI (xs := encL cM ro) (news := cM (r.1, (a5, q1, c5), r.2.2)) hs rfl rfl (tZ (r := (r.1, (a5, q1, c5), r.2.2)) (hs.blk (b := b81))) eX rfl (by omega) (by unfold maxLen; omega)) rfl rfl ?_; rintro _ _ ⟨a8, c8, rfl, hs, hF, hnil⟩)) | (apply aS) | ((apply aJ); (first | (apply dP; exact eB (q := q1) rfl rfl (by omega) (by omega) aA) | (apply aW; first | exact aX hs rfl rfl aA | exact aI hs rfl aA | exact bF (hre.st hs) hrx rfl rfl aA) | (apply aQ; exact aH rfl aA) | (apply aR; first | exact aM rfl rfl aA | exact bL rfl rfl aA) | (apply cJ; exact bV rfl rfl (by omega) (by first | (simp only [Int.reduceAdd]; exact rfl) | exact rfl) aA) | (apply aL; exact aN rfl rfl rfl aA) | (apply bK; exact bX rfl aA) | (apply nG; exact qR rfl rfl aA) | (apply aP; exact aO rfl rfl (by omega) (by omega) aA)); first | (exact rfl; exact rfl) | exact rfl) | (apply bC) | (apply aG) | (apply bD) | (apply bO) | (apply bJ) | (apply aK (t := 7); refine JL_o (by apply bB; exact aU hs) rfl rfl ?_; rintro _ _ ⟨b7, rfl, hb7, hs, hE⟩) | (apply aK (t := 81); refine JL_o (by apply cR; exact cK hs rfl (by omega) rfl) rfl rfl ?_; rintro _ _ ⟨b81, rfl, hb81, hs, hE⟩) | (apply bG; refine JL_u (by apply bA; exact aY hs rfl rfl rfl) rfl ?_; rintro _ _ ⟨hs, hF⟩) | (apply aT; refine bI rfl ob ?_))
      have hcc : encL cM ro ++ cM (r.1, (a5, q1, c5), r.2.2) = encL cM (ro ++ [(r.1, (a5, q1, c5), r.2.2)]) := by rw [gO]; simp [encL]
      rw [show encL cM ro ++ cM (r.1, (a5, q1, c5), r.2.2) = encL cM (ro ++ [(r.1, (a5, q1, c5), r.2.2)]) from hcc] at hs
      have hs : St w NoF _ [_, _, _, _, _, _, _, _] := hs.sel [1, 4, 3, 5, 6, 7, 8, 9] (by decide)
      have hs := St.pushOwn hs g1.symm r.1 r.2.2 (by rw [e1]; exact o1) (by rw [e3]; exact o2) (fun u hu => o3 u (List.mem_of_mem_take hu))
      have hce : (r.1, x.2.1.take 14, r.2.2) = cutE x := by unfold cutE; rw [e1, e3]
      have htk : (E1.take j).map cutE ++ [cutE x] = (E1.take (j + 1)).map cutE := by rw [List.take_add_one, hx, List.map_append]; rfl
      rw [hce, htk] at hs
      refine ih (j + 1, ro ++ [(r.1, (a5, q1, c5), r.2.2)], a8, c8) _ _ ⟨hs.sel [1, 0, 2, 3, 4, 5, 6] (by decide), by dsimp only; omega⟩ (by dsimp only; omega) zss
    · have hkn : j = k2 := by omega
      subst hkn
      rw [List.take_of_length_le (by omega)] at hs2
      have hs : St w NoF w3 [_, _, _, _, _, _, _] := hs2
      repeat' (first | (apply aS) | ((apply aJ); (first | (apply aW; exact aI hs rfl aA) | (apply aL; exact aN rfl rfl rfl aA)); first | (exact rfl; exact rfl) | exact rfl) | (apply bC) | (apply aG) | (apply cI; refine cY rfl ?_) | (apply bG; refine JL_u (by apply bA; exact aY hs rfl rfl rfl) rfl ?_; rintro _ _ ⟨hs, hF⟩) | (apply aT; refine bN rfl ob ?_))
      rw [show (N1.map cutN).length = k by rw [List.length_map, hl], show (E1.map cutE).length = j by rw [List.length_map, hl2]]
      refine aZ Tryz.func31 rfl (.agg' hs rfl rfl .nil) ⟨qs, ro, a', a4, c', c4, ⟨hqm, hqo⟩, rfl, (hs.sel [2, 3, 0, 1] (by decide)).out (List.Sublist.refl _)⟩
end Go.Eng
end
section
namespace Go.Eng
open Go.Proofs
set_option linter.unusedSimpArgs false
set_option linter.unusedVariables false
attribute [local irreducible] Hold J JL JD JX JXat OpR OpG Ret RetV Is Blk Row
set_option maxRecDepth 100000
set_option maxHeartbeats 2000000
end Go.Eng
end
section
namespace Go.Eng
open Go.Proofs
set_option linter.unusedSimpArgs false
set_option linter.unusedVariables false
section
variable {w0 w : World} {F : Nat → Prop} {L : List HP}
theorem sW {qs : List QN} {q : QN} (hs : St w0 F w L) (h2 : OwnN qs ∈ L) (hq : q ∈ qs) : q.2.2.1.1.1 = none ∨ ∃ b o, q.2.2.1.1.1 = some ⟨b, o, none⟩ := by
  obtain ⟨_, _, _, h⟩ := (nA (hs.all _ h2) hq).2.1
  rcases h with ⟨h1, _⟩ | ⟨g, o, cur, h1, _⟩
  · exact .inl h1
  · exact .inr ⟨g, o, h1⟩
theorem slRN {a : Option Addr} {n c : Nat} {rs : List RNd} (hs : St w0 F w L) (h1 : TabN a n c rs ∈ L) : Sl dRNd All w a n c rs := (RowV.slF (d := dRNd) (hs.all _ h1) (by decide) (fun _ _ => ⟨trivial, trivial, trivial, trivial⟩)).weak (fun _ _ => trivial)
theorem slTr {a : Option Addr} {n c : Nat} {xs : List ST} (hs : St w0 F w L) (h1 : RowT a n c xs ∈ L) (hok : ∀ s ∈ xs, okT s) : Sl dStp All w a n c xs := (RowV.slF (d := dStp) (hs.all _ h1) (by decide) hok).weak (fun _ _ => trivial)
theorem rG {qs : List QN} {q : QN} (hs : St w0 F w L) (h2 : OwnN qs ∈ L) (hok : ∀ q ∈ qs, okN q) (hq : q ∈ qs) : Sl dStp All w q.2.2.1.1.1 q.2.2.1.1.2.1 q.2.2.1.1.2.2 q.2.2.1.2 := (RowV.slF (d := dStp) (nA (hs.all _ h2) hq).2.1 (by decide) (hok q hq).2.1.2).weak (fun _ _ => trivial)
theorem slRow3 {qs : List QN} {q : QN} (hs : St w0 F w L) (h2 : OwnN qs ∈ L) (hok : ∀ q ∈ qs, okN q) (hq : q ∈ qs) : Sl dStp All w q.2.2.2.1.1 q.2.2.2.1.2.1 q.2.2.2.1.2.2 q.2.2.2.2 := (RowV.slF (d := dStp) (nA (hs.all _ h2) hq).2.2 (by decide) (hok q hq).2.2.2).weak (fun _ _ => trivial)
end
theorem wA {N : List NM} (g : GR N) {x : Int} (hd : drC N x = 0) :
    GR (drL N x) ∧ (∃ y, N[(x - 1).toNat]? = some y ∧ y.1 = true ∧ dX y.2.1 = true ∧ fW (drL N x) y.2.1 = 0) ∧ fV N = fV (drL N x) + 1 ∧ x ∉ iG (drL N x) ∧
      (∀ z ∈ drL N x, (∀ s ∈ z.2.2.1, s.2 ≠ x) ∧ ∀ s ∈ z.2.2.2, s.2 ≠ x) ∧ (dV (drL N x) : Int) + 1 ≤ x := by
  have g2 := dr_GR g hd
  have hd0 := hd
  unfold drC at hd
  cases hi : isM N x with
  | false => rw [hi, Bool.false_and] at hd; exact absurd hd (by decide)
  | true =>
    obtain ⟨p, y, rfl, hy, hu⟩ := isM_true.1 hi
    have e : drL N ((p : Int) + 1) = gB N p := by
      unfold drL
      rw [hd0, show ((p : Int) + 1 - 1).toNat = p by omega]; rfl
    rw [e] at g2 ⊢
    have hno : ∀ z, (gB N p)[p]? = some z → z.1 = false := fun z hz => by
      obtain ⟨z2, _, e2⟩ := gF hz
      rw [e2]; unfold offN; rw [if_pos rfl]
    have hfree : fW (gB N p) y.2.1 = 0 := findN_none.2 fun i z hz hz1 hz2 => by
      have hm : ((1, z.2.1, (i : Int) + 1) : Ent) ∈ fC (gB N p) := ents_mem.2 ⟨i, z, hz, hz1, rfl⟩
      obtain ⟨h1, h2⟩ := (lR hy hu g.uniq _).1 hm
      obtain ⟨j, z3, h3, h4, h5⟩ := ents_mem.1 h1
      have e6 : (i : Int) + 1 = (j : Int) + 1 := congrArg (fun t : Ent => t.2.2) h5
      have e7 : z.2.1 = z3.2.1 := congrArg (fun t : Ent => t.2.1) h5
      have : j = p := g.uniq j p z3 y h3 hy h4 hu (by rw [← e7, hz2])
      exact h2 (by rw [hz2]; congr 2; omega)
    refine ⟨g2, ⟨y, by rw [show ((p : Int) + 1 - 1).toNat = p by omega]; exact hy, hu, g.typ p y hy hu, hfree⟩, rV hy hu g.uniq, fun hm => ?_, fun z hz => ?_, ?_⟩
    · unfold iG uN at hm
      obtain ⟨j, hj, he⟩ := List.mem_map.1 hm
      have hj2 := List.mem_filter.1 hj
      have hjp : j = p := by omega
      subst hjp
      have hlt := List.mem_range.1 hj2.1
      have := hno _ (List.getElem?_eq_getElem hlt)
      have h3 := hj2.2
      rw [dG (List.getElem?_eq_getElem hlt), this] at h3
      cases h3
    · obtain ⟨i, hzi⟩ := List.mem_iff_getElem?.1 hz
      refine ⟨fun s hs e2 => ?_, fun s hs e2 => ?_⟩
      · obtain ⟨_, j, y2, e1, h2, h3, _⟩ := g2.plus i z hzi s hs
        have hjp : j = p := by omega
        subst hjp
        rw [hno _ h2] at h3; cases h3
      · obtain ⟨_, j, y2, e1, h2, h3, _⟩ := g2.less i z hzi s hs
        have hjp : j = p := by omega
        subst hjp
        rw [hno _ h2] at h3; cases h3
    · have := yM hy
      omega
theorem ownNs_ok {N : List NM} (h : ∀ x ∈ N, okNM x) : ∀ x ∈ mW N, okNM x := fun x hx => by
  unfold mW at hx
  obtain ⟨y, hy, rfl⟩ := List.mem_map.1 hx
  obtain ⟨h1, h2, h3⟩ := h y (List.mem_of_mem_take hy)
  unfold cutN
  exact ⟨fun i hi => h1 i (List.mem_of_mem_take hi), fun i hi => h2 i (List.mem_of_mem_take hi), fun i hi => h3 i (List.mem_of_mem_take hi)⟩
theorem yL {k : Nat} {N : List NM} (h : tiny k N) (x : Int) : tiny k (drL N x) := by
  unfold drL
  split
  · obtain ⟨p, hp⟩ : ∃ p, p = (x - 1).toNat := ⟨_, rfl⟩
    rw [← hp]
    refine ⟨?_, fun z hz => ?_⟩
    · unfold gB rC
      rw [List.length_take, List.length_mapIdx]
      have := h.1
      omega
    · obtain ⟨i, hi⟩ := List.mem_iff_getElem?.1 hz
      obtain ⟨y, hy, rfl⟩ := gF hi
      obtain ⟨h1, h2, h3⟩ := h.2 y (List.mem_of_getElem? hy)
      unfold offN
      split
      · exact ⟨Nat.zero_le _, Nat.zero_le _, Nat.zero_le _⟩
      · refine ⟨h1, ?_, ?_⟩
        · show (eP y.2.2.1 _).length ≤ _
          exact Nat.le_trans (by unfold eP; exact List.length_filter_le _ _) h2
        · show (eP y.2.2.2 _).length ≤ _
          exact Nat.le_trans (by unfold eP; exact List.length_filter_le _ _) h3
  · exact ⟨Nat.zero_le _, fun z hz => by cases hz⟩
theorem new_at {D : List NM} {T : List Int} {qs : List QN} (hq : qs.map gK = setN D (dV D) (newN T)) (ho : ∀ q ∈ qs, okN q) : ∃ (u : Bool) (r1 : RS) (a2 : Option Addr) (c2 : Nat) (a3 : Option Addr) (c3 : Nat), (qs.map rawN)[dV D]? = some (u, r1, (a2, 0, c2), (a3, 0, c3)) ∧ dV D < qs.length := by
  have hx : (setN D (dV D) (newN T))[dV D]? = some (newN T) := by rw [hP (fJ D), if_pos rfl]
  obtain ⟨q, h1, h2⟩ := pA hq hx
  have hm := List.mem_of_getElem? h1
  obtain ⟨_, ⟨e2, _⟩, ⟨e3, _⟩⟩ := ho q hm
  obtain ⟨u, ⟨⟨qa1, qn1, qc1⟩, l1⟩, ⟨⟨qa2, qn2, qc2⟩, l2⟩, ⟨⟨qa3, qn3, qc3⟩, l3⟩⟩ := q
  have k2 : l2 = [] := congrArg (fun x : NM => x.2.2.1) h2
  have k3 : l3 = [] := congrArg (fun x : NM => x.2.2.2) h2
  subst k2 k3
  have j2 : qn2 = 0 := e2
  have j3 : qn3 = 0 := e3
  subst j2 j3
  exact ⟨u, (qa1, qn1, qc1), qa2, qc2, qa3, qc3, by rw [List.getElem?_map, h1]; rfl, (List.getElem?_eq_some_iff.1 h1).1⟩
theorem setN_sz {D : List NM} {T : List Int} (h : szN D) (hT : T.length ≤ 1000) : szN (setN D (dV D) (newN T)) := fun x hx => by
  obtain ⟨i, hi⟩ := List.mem_iff_getElem?.1 hx
  rw [hP (fJ D)] at hi
  split at hi
  · cases hi; exact ⟨by show T.length ≤ _; omega, Nat.zero_le _, Nat.zero_le _⟩
  · exact h x (List.mem_of_getElem? hi)
theorem nJ (N : List NM) : (iG N).length = fV N := by
  unfold iG
  rw [List.length_map]
  exact qB N
theorem drE_bad {N : List NM} {E : List Ent} {x : Int} (h : drE N E x ≠ 0) : x = 1 ∨ typC N E x ≠ 0 := by
  unfold drE at h
  unfold typC
  cases hc : eC N E with
  | false => right; exact fun e => by cases e
  | true =>
    rw [hc] at h
    unfold drC at h
    cases hi : isM N x with
    | false => right; exact fun e => by cases e
    | true =>
      rw [hi] at h
      by_cases e : x = 1
      · exact .inl e
      · rw [decide_eq_false e] at h; exact absurd rfl h
theorem tR {P : Program} {env : Env} {w : World} {dst : Option Tmp} {ty : TypeId} {pos : String} {af : Array Edge} {gd : Option (Nat × Bool)} {t t' e e' : Nat} {sz by_ : Nat} {z : Value} {a ax : Option Addr} {n c cx : Nat} {x y : Operand} {S : Value → World → Prop} [U : Und P t (.slice e)] [U' : Und P t' (.slice e')] [Z : Sz P e sz] [B : Byt P e by_] [Zr : Zer P e z]
    (hx : ev env x = some (.slice a n c)) (hy : ev env y = some (.slice ax 0 cx)) (ha : a = none ∨ ∃ b o, a = some ⟨b, o, none⟩) (hnc : n ≤ c) (hS : S (.slice a n c) w) :
    OpR P env ⟨dst, .call ⟨.builtin .append, #[x, y], #[t, t']⟩, ty, pos, af, gd⟩ w S := by
  obtain ⟨i, hi, hi1, hi2, hi3⟩ := lY (P := P) (e := e) (sz := sz) (by_ := by_) (z := z)
  have hsrc : Src w ax 0 sz [] := ⟨by simp, fun _ => by simp, fun u hu => (nomatch hu), fun b o hb j u hj => by simp at hj⟩
  have hfx := dU (P := P) (l := 0) (c := cx) hsrc (fun h => absurd h (by omega))
  refine .val (w' := w) (v := .slice a n c) (fun _ hm => ?_) hS
  rcases ha with rfl | ⟨b, o, rfl⟩
  · simp [execOp, resolve, invoke, builtin, hm.eval hx, hm.eval hy, Builtin.append_, run_underlying U.h, run_underlying U'.h, sizeOf, typeInfo, hi, hi1, Builtin.lenOf, hfx, hnc]
  · simp [execOp, resolve, invoke, builtin, hm.eval hx, hm.eval hy, Builtin.append_, run_underlying U.h, run_underlying U'.h, sizeOf, typeInfo, hi, hi1, Builtin.lenOf, hfx, hnc]
    simp [storeCells]
attribute [local irreducible] Hold J JL JD JX JXat OpR OpG Ret RetV Is Blk Row
set_option maxRecDepth 100000
set_option maxHeartbeats 2000000
theorem indexI_r (w : World) (a : Option Addr) (n c : Nat) (xs : List Int) (x : Int) (h : Sl (tInt .i64) All w a n c xs) :
    Ret Tryz.prog 131 #[.slice a n c, .int .i64 x] w fun v w' => ∃ i : Int, (0 ≤ i ↔ x ∈ xs) ∧ v = .int .i64 i ∧ Ext w w' := by
  refine cG (l := [_, _]) Tryz.func131 rfl Tryz.ntmps131 (by simp) ?_
  have hs := St.init w
  have hl := h.len
  have hmx : n ≤ 9223372036854775807 := by have h3 := h.le; have h4 := h.cap; unfold maxLen at h4; omega
  repeat' (first | (apply aS) | ((apply aJ); (first | (apply aQ; exact aH rfl aA) | (apply aF; exact aC rfl aA) | (apply bK; exact bX rfl aA)); first | (exact rfl; exact rfl) | exact rfl) | (apply bC) | (apply aG) | (apply bD))
  refine dF (α := Nat) [(0, _), (1, _), (7, _)] (fun k => [(8, .int .i64 k)]) (fun k w' => St w NoF w' [] ∧ k ≤ n ∧ x ∉ xs.take k) (fun k => n - k) 0 ⟨hs, Nat.zero_le _, (by simp)⟩ zss ?_
  rintro k w2 ⟨hs1, hk, hno⟩ ih
  have hs : St w NoF w2 [] := hs1
  by_cases hlt : k < n
  · obtain ⟨p, o, rfl⟩ := h.sl.addr (by omega)
    have hs : St w NoF w2 [] := hs1
    have hx : xs[k]? = some (xs[k]'(by omega)) := List.getElem?_eq_getElem (by omega)
    obtain ⟨y, hyd⟩ : ∃ y, y = xs[k]'(by omega) := ⟨_, rfl⟩
    rw [← hyd] at hx
    by_cases hc : x = y
    · repeat' (first | (apply aS) | ((apply aJ); (first | (apply aW; exact cD (i := k) (j := 0) (h.st hs) hx rfl rfl rfl aA) | (apply aQ; exact aH rfl aA) | (apply aF; exact aC rfl aA) | (apply aL; exact aN rfl rfl rfl aA) | (apply aP; exact aO rfl rfl (by omega) (by omega) aA)); first | (exact rfl; exact rfl) | exact rfl) | (apply bC) | (apply aG) | (apply bD) | (apply bJ) | (apply aT; refine bI rfl ob ?_))
      refine aZ Tryz.func131 rfl (.tmp rfl .nil) ⟨k, ⟨fun _ => hc ▸ List.mem_of_getElem? hx, fun _ => by omega⟩, rfl, hs.frm.ext⟩
    · repeat' (first | (apply aS) | ((apply aJ); (first | (apply aW; exact cD (i := k) (j := 0) (h.st hs) hx rfl rfl rfl aA) | (apply aQ; exact aH rfl aA) | (apply aF; exact aC rfl aA) | (apply cJ; exact bV rfl rfl (by omega) (by first | (simp only [Int.reduceAdd]; exact rfl) | exact rfl) aA) | (apply aL; exact aN rfl rfl rfl aA) | (apply aP; exact aO rfl rfl (by omega) (by omega) aA)); first | (exact rfl; exact rfl) | exact rfl) | (apply bC) | (apply aG) | (apply bD) | (apply bO) | (apply bJ) | (apply aT; first | refine bI rfl ob ?_ | refine bN rfl ob ?_))
      refine ih (k + 1) _ _ ⟨hs, hlt, fun hm => ?_⟩ (by omega) zss
      rw [List.take_add_one, hx] at hm
      rcases List.mem_append.1 hm with e | e
      · exact hno e
      · exact hc (by simpa using e)
  · rw [List.take_of_length_le (by omega)] at hno
    repeat' (first | (apply aS) | ((apply aJ); (first | (apply aF; exact aC rfl aA) | (apply aL; exact aN rfl rfl rfl aA)); first | (exact rfl; exact rfl) | exact rfl) | (apply bC) | (apply aG) | (apply cI; refine cY rfl ?_) | (apply aT; refine bN rfl ob ?_))
    refine aZ Tryz.func131 rfl (.tmp rfl .nil) ⟨-1, ⟨fun e => absurd e (by decide), fun e => absurd e hno⟩, rfl, hs.frm.ext⟩
theorem contI_r (w : World) (a : Option Addr) (n c : Nat) (xs : List Int) (x : Int) (h : Sl (tInt .i64) All w a n c xs) :
    Ret Tryz.prog 52 #[.slice a n c, .int .i64 x] w fun v w' => v = .bool (decide (x ∈ xs)) ∧ Ext w w' := by
  refine cG (l := [_, _]) Tryz.func52 rfl Tryz.ntmps52 (by simp) ?_
  have hs := St.init w
  repeat' (first | ((apply aV 131; refine JL_o (by exact aB en131 rfl (indexI_r _ a n c xs x (h.st hs))) rfl rfl ?_; rintro _ _ ⟨i, hi, rfl, hE⟩; have hs := hs.ext hE; (try simp only [zcc] at hs))) | (apply aS) | ((apply aJ); (first | (apply aQ; exact aH rfl aA) | (apply aF; exact aC rfl aA) | (apply aL; exact aN rfl rfl rfl aA)); first | (exact rfl; exact rfl) | exact rfl) | (apply bC) | (apply aG))
  refine aZ Tryz.func52 rfl (.tmp rfl .nil) ⟨congrArg Value.bool (by rw [decide_eq_decide]; exact hi), hs.frm.ext⟩
end Go.Eng
end
section
namespace Go.Eng
open Go.Proofs
set_option linter.unusedSimpArgs false
set_option linter.unusedVariables false
attribute [local irreducible] Hold J JL JD JX JXat OpR OpG Ret RetV Is Blk Row
set_option maxRecDepth 100000
set_option maxHeartbeats 2000000
theorem graphDrops_w (w : World) (a : Option Addr) (n c : Nat) (N : List NM) (a2 : Option Addr) (n2 c2 : Nat) (E : List Ent) (x : Int) (h : Sl iL All w a n c N) (hE0 : Sl dEnt All w a2 n2 c2 E) (hxi : inK .i64 x) :
    Ret Tryz.prog 7 #[.agg #[.slice a n c, .slice a2 n2 c2], .int .i64 x] w fun v w' => v = .bool true ∧ Ext w w' := by
  refine cG (l := [_, _]) Tryz.func7 rfl Tryz.ntmps7 (by simp) ?_
  have hs := St.init w
  obtain ⟨N1, hN1⟩ : ∃ N1, N1 = mW N := ⟨_, rfl⟩
  obtain ⟨E1, hE1⟩ : ∃ E1, E1 = rL E := ⟨_, rfl⟩
  have hT : tiny 0 N1 := by rw [hN1]; exact vM N
  have hsz : szN N1 := hT.sz (by omega)
  have hN30 : N1.length ≤ 30 := hT.1
  have hE128 : E1.length ≤ 128 := by rw [hE1]; exact xK E
  obtain ⟨tc, htc⟩ : ∃ l, l = typC N1 E1 x := ⟨_, rfl⟩
  obtain ⟨Tl, hTl⟩ : ∃ l, l = typL N1 E1 x := ⟨_, rfl⟩
  by_cases hdE : drE N1 E1 x = 0
  rotate_left
  · have hbad := drE_bad hdE
    rw [← htc] at hbad
    have hd0 : (decide (drE N1 E1 x ≠ 0)) = true := decide_eq_true hdE
    obtain ⟨dv, hdv⟩ : ∃ dv, dv = drE N1 E1 x := ⟨_, rfl⟩
    by_cases hx1 : x = 1
    · repeat' (first | ((apply aV 30; refine JL_o (by exact aB en30 rfl (oC _)) rfl rfl ?_; rintro _ _ ⟨rfl, hE⟩; have hs := hs.ext hE; (try simp only [zcc] at hs))) | ((apply aV 31; refine JL_o (by exact aB en31 rfl ((tC _ a a2 n c n2 c2 N E (h.st hs) (hE0.st hs)).mono (fun _ _ r => by rw [← hN1, ← hE1] at r; exact r))) rfl rfl ?_; rintro _ _ ⟨qs, re, a5, a6, c5, c6, ⟨hqm, hqo⟩, rfl, hf⟩; have hs := hs.fresh hf; (try simp only [zcc] at hs))) | ((apply aV 44; refine JL_o (by exact aB en44 rfl ((tA _ a5 a6 N1.length c5 E1.length c6 N1 E1 x (slG (qs := qs) hs hqm hqo zmm zmm) (iS (rs := re) hs zmm zmm) (by omega) hsz hxi).mono (fun _ _ r => by rw [← hTl, ← htc] at r; exact r))) rfl rfl ?_; rintro _ _ ⟨a8, rfl, hf⟩; have hs := hs.fresh hf; (try simp only [zcc] at hs))) | ((apply aV 38; refine JL_o (by exact aB en38 rfl (((qE _ a5 a6 N1.length c5 E1.length c6 N1 E1 x (slG (qs := qs) hs hqm hqo zmm zmm) (iS (rs := re) hs zmm zmm) (by omega) (by omega) hsz hxi).mono (fun _ _ r => r.resolve_right (fun e => hdE e.1))))) rfl rfl ?_; rintro _ _ ⟨_, rfl, hE⟩; have hs := hs.ext hE; (try simp only [zcc] at hs))) | (apply aS) | ((first | (apply aJ) | (apply bW; exact rfl; exact gb)); (first | (apply aQ; exact aH rfl aA) | (apply aF; exact aC rfl aA) | (apply aR; exact aM rfl rfl aA) | (apply aW; first | exact aX hs rfl rfl aA | exact aI hs rfl aA) | (apply aL; exact aN rfl rfl rfl aA) | (apply cE; exact cF rfl aA) | (apply cB; exact bS rfl gb rfl aA) | (apply bK; exact bX rfl aA) | (apply bR; exact bM rfl rfl aA)); first | (exact rfl; exact rfl) | exact rfl) | (apply bC) | (apply aG) | (apply bJ) | (apply aK (t := 2); refine JL_o (by apply bZ; exact bH hs rfl) rfl rfl ?_; rintro _ _ ⟨b2, rfl, hb2, hs, hE⟩) | (apply aK (t := 5); refine JL_o (by apply bB; exact aU hs) rfl rfl ?_; rintro _ _ ⟨b5, rfl, hb5, hs, hE⟩) | (apply aK (t := 8); refine JL_o (by apply bB; exact aU hs) rfl rfl ?_; rintro _ _ ⟨b8, rfl, hb8, hs, hE⟩) | (apply bG; refine JL_u (by apply bA; exact aY hs rfl rfl rfl) rfl ?_; rintro _ _ ⟨hs, hF⟩) | (apply cU; (refine fK rfl gb rfl ?_)) | (apply aT; first | refine bI rfl ob ?_ | refine bT rfl gb ?_))
      refine aZ Tryz.func7 rfl (.tmp rfl .nil) ⟨rfl, hs.frm.ext⟩
    · have htn : tc ≠ 0 := hbad.resolve_left hx1
      repeat' (first | ((apply aV 30; refine JL_o (by exact aB en30 rfl (oC _)) rfl rfl ?_; rintro _ _ ⟨rfl, hE⟩; have hs := hs.ext hE; (try simp only [zcc] at hs))) | ((apply aV 31; refine JL_o (by exact aB en31 rfl ((tC _ a a2 n c n2 c2 N E (h.st hs) (hE0.st hs)).mono (fun _ _ r => by rw [← hN1, ← hE1] at r; exact r))) rfl rfl ?_; rintro _ _ ⟨qs, re, a5, a6, c5, c6, ⟨hqm, hqo⟩, rfl, hf⟩; have hs := hs.fresh hf; (try simp only [zcc] at hs))) | ((apply aV 44; refine JL_o (by exact aB en44 rfl ((tA _ a5 a6 N1.length c5 E1.length c6 N1 E1 x (slG (qs := qs) hs hqm hqo zmm zmm) (iS (rs := re) hs zmm zmm) (by omega) hsz hxi).mono (fun _ _ r => by rw [← hTl, ← htc] at r; exact r))) rfl rfl ?_; rintro _ _ ⟨a8, rfl, hf⟩; have hs := hs.fresh hf; (try simp only [zcc] at hs))) | ((apply aV 38; refine JL_o (by exact aB en38 rfl (((qE _ a5 a6 N1.length c5 E1.length c6 N1 E1 x (slG (qs := qs) hs hqm hqo zmm zmm) (iS (rs := re) hs zmm zmm) (by omega) (by omega) hsz hxi).mono (fun _ _ r => r.resolve_right (fun e => hdE e.1))))) rfl rfl ?_; rintro _ _ ⟨_, rfl, hE⟩; have hs := hs.ext hE; (try simp only [zcc] at hs))) | (apply aS) | ((first | (apply aJ) | (apply bW; exact rfl; exact gb)); (first | (apply aQ; exact aH rfl aA) | (apply aF; exact aC rfl aA) | (apply aR; exact aM rfl rfl aA) | (apply aW; first | exact aX hs rfl rfl aA | exact aI hs rfl aA) | (apply aL; exact aN rfl rfl rfl aA) | (apply cE; exact cF rfl aA) | (apply cB; first | exact bS rfl gb rfl aA | exact bP rfl gb rfl aA) | (apply bK; exact bX rfl aA) | (apply bR; exact bM rfl rfl aA)); first | (exact rfl; exact rfl) | exact rfl) | (apply bC) | (apply aG) | (apply bJ) | (apply aK (t := 2); refine JL_o (by apply bZ; exact bH hs rfl) rfl rfl ?_; rintro _ _ ⟨b2, rfl, hb2, hs, hE⟩) | (apply aK (t := 5); refine JL_o (by apply bB; exact aU hs) rfl rfl ?_; rintro _ _ ⟨b5, rfl, hb5, hs, hE⟩) | (apply aK (t := 8); refine JL_o (by apply bB; exact aU hs) rfl rfl ?_; rintro _ _ ⟨b8, rfl, hb8, hs, hE⟩) | (apply bG; refine JL_u (by apply bA; exact aY hs rfl rfl rfl) rfl ?_; rintro _ _ ⟨hs, hF⟩) | (apply aT; first | refine bI rfl ob ?_ | refine bT rfl gb ?_))
      refine aZ Tryz.func7 rfl (.tmp rfl .nil) ⟨by first | rfl | exact congrArg Value.bool (decide_eq_true htn), hs.frm.ext⟩
  have hcG : eC N1 E1 = true := by
    cases hc : eC N1 E1 with
    | true => rfl
    | false => unfold drE at hdE; rw [hc] at hdE; cases hdE
  obtain ⟨g1, hcE, hcA⟩ := check_iff.1 hcG
  have hdC : drC N1 x = 0 := by unfold drE at hdE; rw [hcG] at hdE; exact hdE
  obtain ⟨gD, ⟨y, hy, hyu, hyt, hyf⟩, hmD, hxD, hsD, hfD⟩ := wA g1 hdC
  obtain ⟨D, hD⟩ : ∃ D, D = drL N1 x := ⟨_, rfl⟩
  rw [← hD] at gD hyf hmD hxD hsD hfD
  have hiM : isM N1 x = true := by
    unfold drC at hdC
    cases hi : isM N1 x with
    | true => rfl
    | false => rw [hi, Bool.false_and] at hdC; exact absurd hdC (by decide)
  have e1 : tc = 0 := by rw [htc]; unfold typC; rw [hcG, hiM]; rfl
  have e2 : Tl = y.2.1 := by
    rw [hTl]; unfold typL; rw [← htc, e1, if_pos rfl]
    unfold dS
    rw [dG hy]
  rw [← e2] at hyt hyf
  subst e1
  have hTo : ∀ v ∈ Tl, okId v := by
    rw [e2]
    have := ownNs_ok (rF h) y (by rw [← hN1]; exact List.mem_of_getElem? hy)
    exact this.1
  have hDT : tiny 0 D := by rw [hD]; exact yL hT x
  have hszD : szN D := hDT.sz (by omega)
  have hlD : D.length ≤ 30 := hDT.1
  have hUo : ∀ v ∈ iG D, inK .i64 v := fun v hv => by
    unfold iG uN at hv
    obtain ⟨j, hj, rfl⟩ := List.mem_map.1 hv
    have := List.mem_range.1 (List.mem_filter.1 hj).1
    unfold inK; simp only [IntKind.min, IntKind.max, IntKind.bits, IntKind.signed]; omega
  have hxU : decide (x ∈ iG D) = false := decide_eq_false hxD
  have hUb : (iG N1).length ≤ 30 ∧ 1 ≤ (iG N1).length := by
    refine ⟨?_, by rw [nJ]; omega⟩
    unfold iG
    rw [List.length_map]
    exact Nat.le_trans (uN_len N1 N1.length) hN30
  have hlen : ((iG D).length : Int) = ((iG N1).length : Int) - 1 := by rw [nJ, nJ]; omega
  have hofC : ofC D Tl = 0 := by
    unfold ofC
    rw [hyt, if_pos rfl, if_neg (fun e => e hyf), if_neg (by have := g1.many; omega)]
  have hofL : ofL D Tl = setN D (dV D) (newN Tl) := by unfold ofL; rw [if_pos hofC, if_neg (fun e => e hyf)]
  have hofn : ofn D Tl = dV D + 1 := by unfold ofn; rw [if_pos hofC, if_neg (fun e => e hyf)]
  have hEq : decide (drE N1 E1 x ≠ 0) = false := decide_eq_false (fun e => e hdE)
  repeat' (first | ((apply aV 30; refine JL_o (by exact aB en30 rfl (oC _)) rfl rfl ?_; rintro _ _ ⟨rfl, hE⟩; have hs := hs.ext hE; (try simp only [zcc] at hs))) | ((apply aV 31; refine JL_o (by exact aB en31 rfl ((tC _ a a2 n c n2 c2 N E (h.st hs) (hE0.st hs)).mono (fun _ _ r => by rw [← hN1, ← hE1] at r; exact r))) rfl rfl ?_; rintro _ _ ⟨qs, re, a5, a6, c5, c6, ⟨hqm, hqo⟩, rfl, hf⟩; have hs := hs.fresh hf; (try simp only [zcc] at hs))) | ((apply aV 44; refine JL_o (by exact aB en44 rfl ((tA _ a5 a6 N1.length c5 E1.length c6 N1 E1 x (slG (qs := qs) hs hqm hqo zmm zmm) (iS (rs := re) hs zmm zmm) (by omega) hsz hxi).mono (fun _ _ r => by rw [← hTl, ← htc] at r; exact r))) rfl rfl ?_; rintro _ _ ⟨a8, rfl, hf⟩; have hs := hs.fresh hf; (try simp only [zcc] at hs))) | ((apply aV 38; refine JL_o (by exact aB en38 rfl (((qE _ a5 a6 N1.length c5 E1.length c6 N1 E1 x (slG (qs := qs) hs hqm hqo zmm zmm) (iS (rs := re) hs zmm zmm) (by omega) (by omega) hsz hxi).mono (fun _ _ r => by rw [← hD] at r; exact r.resolve_left (fun e => e.1 hdE))))) rfl rfl ?_; rintro _ _ ⟨_, t9, k9, u9, t10, m10, u10, rfl, hk9, qs4, es4, rs4, ⟨hq4, ho4⟩, ⟨he4, hA4⟩, ⟨hl4, hm4, hx4⟩, hf⟩; have hs := hs.fresh hf; have hcD : eC D es4 = true := check_iff.2 ⟨gD, he4, hA4⟩; have hfg := lZ hcD Tl; rw [hyf] at hfg; have hUD : nK D es4 = iG D := mY gD he4 hA4; have hUN : nK N1 E1 = iG N1 := mY g1 hcE hcA; (try simp only [zcc] at hs))) | ((apply aV 51; refine JL_o (by exact aB en51 rfl ((gfind_r _ t9 t10 a8 k9 u9 m10 u10 Tl.length Tl.length D es4 Tl (slG (qs := qs4) hs hq4 ho4 zmm zmm) (iS (rs := rs4) hs zmm zmm) hx4 hszD (slU (xs := Tl) hs zmm hTo)).mono (fun _ _ r => by rw [if_pos hcD, hfg] at r; exact r))) rfl rfl ?_; rintro _ _ ⟨rfl, hE⟩; have hs := hs.ext hE; (try simp only [zcc] at hs))) | ((apply ax_c; apply dN 46; exact rfl; exact rfl; exact gb; (intro W X hN hs; exact aB en46 rfl ((dK _ t9 t10 k9 u9 m10 u10 D es4 (slG (qs := qs4) hs hq4 ho4 zmm zmm) (iS (rs := rs4) hs zmm zmm) hx4 hszD).mono (fun _ _ r => by rw [jC hcD] at r; exact r))); (rintro _ _ _ _ ⟨rfl, hE⟩; first | exact hE | exact Fresh.ext hf); rintro W X _ _ hN hs ⟨rfl, hE⟩; have hs := hs.ext hE; (try simp only [zcc] at hs); refine JX.at hs ?_)) | ((apply ax_c; apply dN 49; exact rfl; exact rfl; exact gb; (intro W X hN hs; exact aB en49 rfl ((qF _ t9 t10 k9 u9 m10 u10 D es4 (slG (qs := qs4) hs hq4 ho4 zmm zmm) (iS (rs := rs4) hs zmm zmm) (by omega) hx4 hszD).mono (fun _ _ r => by rw [hUD] at r; exact r))); (rintro _ _ _ _ ⟨t12, u12, rfl, hf⟩; first | exact hE | exact Fresh.ext hf); rintro W X _ _ hN hs ⟨t12, u12, rfl, hf⟩; have hs := hs.fresh hf; (try simp only [zcc] at hs); refine JX.at hs ?_)) | ((apply ax_c; apply dN 52; exact rfl; exact rfl; exact gb; (intro W X hN hs; exact aB en52 rfl (contI_r _ t12 (iG D).length u12 (iG D) x ((RowV.sl (hs.row t12 (iG D).length u12) hUo).weak (fun _ _ => trivial)))); (rintro _ _ _ _ ⟨rfl, hE⟩; first | exact hE | exact Fresh.ext hf); rintro W X _ _ hN hs ⟨rfl, hE⟩; rw [hxU]; have hs := hs.ext hE; (try simp only [zcc] at hs); refine JX.at hs ?_)) | ((apply ax_c; apply dN 49; exact rfl; exact rfl; exact gb; (intro W X hN hs; exact aB en49 rfl ((qF _ a5 a6 N1.length c5 E1.length c6 N1 E1 (slG (qs := qs) hs hqm hqo zmm zmm) (iS (rs := re) hs zmm zmm) (by omega) (by omega) hsz).mono (fun _ _ r => by rw [hUN] at r; exact r))); (rintro _ _ _ _ ⟨t13, u13, rfl, hf⟩; first | exact hE | exact Fresh.ext hf); rintro W X _ _ hN hs ⟨t13, u13, rfl, hf⟩; have hs := hs.fresh hf; (try simp only [zcc] at hs); refine JX.at hs ?_)) | ((apply aj_block 0; refine J_cutK (γ := Unit) [(1, _), (6, _), (8, _), (81, _), (82, _)] zss (fun _ => []) (fun _ w' => St w NoF w' [Blk b8 (.cells #[.slice t9 k9 u9, .slice t10 m10 u10] 57 (0, 0)), TabN t9 k9 u9 (qs4.map rawN), OwnN qs4, dE t10 m10 u10 rs4, Own rs4 es4, RowU a8 Tl.length Tl.length Tl]) (fun RR kk hcont => hold ?_) (hold ?_))) | (apply aS) | ((first | (apply aJ) | (apply JX_f; exact rfl; intro W X hs) | (apply eZ; exact rfl; exact rfl; exact gb; intro W X hs)); (first | (apply aQ; exact aH rfl aA) | (apply aF; exact aC rfl aA) | (apply aR; exact aM rfl rfl aA) | (apply aW; first | exact aX hs rfl rfl aA | exact aI hs rfl aA) | (apply eD; exact dH rfl rfl (by omega) aA) | (apply aL; exact aN rfl rfl rfl aA) | (apply cE; exact cF rfl aA) | (apply cB; exact bP rfl gb rfl aA) | (apply bK; exact bX rfl aA) | (apply bR; exact bM rfl rfl aA)); first | (exact rfl; exact rfl) | exact rfl) | (apply bC) | (apply aG) | (apply bJ) | (apply aK (t := 2); refine JL_o (by apply bZ; exact bH hs rfl) rfl rfl ?_; rintro _ _ ⟨b2, rfl, hb2, hs, hE⟩) | (apply aK (t := 5); refine JL_o (by apply bB; exact aU hs) rfl rfl ?_; rintro _ _ ⟨b5, rfl, hb5, hs, hE⟩) | (apply aK (t := 8); refine JL_o (by apply bB; exact aU hs) rfl rfl ?_; rintro _ _ ⟨b8, rfl, hb8, hs, hE⟩) | (apply bG; refine JL_u (by apply bA; exact aY hs rfl rfl rfl) rfl ?_; rintro _ _ ⟨hs, hF⟩) | (apply aT; first | refine bN rfl ob ?_ | refine bT rfl gb ?_) | (apply cW; (refine dC (id := 9) [0, 1, 3, 7, 15, 31, 63, 127, 255, 511, 1023, 2047, 4095, 2047, 16383, 32767, 65535, 131071, 262143, 524287, 131071, 1572863, 3670015, 7864319, 16777215, 33554431] [(0, 0), (1, 0), (2, 0), (3, 0), (4, 0), (5, 0), (6, 0), (7, 1), (8, 0), (9, 0), (10, 0), (11, 0), (13, 0), (12, 1), (14, 1), (15, 0), (16, 0), (17, 0), (20, 0), (18, 1), (19, 0), (21, 1), (22, 0), (23, 0), (24, 0), (25, 0)] [] hs eJ (by kernel_rfl) (by kernel_rfl) (by kernel_rfl) (by kernel_rfl) (by kernel_rfl) ?_)) | (refine cV (fun W hs => ?_)) | (apply dI))
  · refine tV ?_
    have hqn := congrArg List.length hq4
    rw [List.length_map] at hqn
    have hk63 : k9 ≤ 30 := by omega
    repeat' (first | (apply bD))
    refine dF (α := Nat) [(1, _), (6, _), (8, _), (81, _), (82, _)] (fun k => [(83, .int .i64 k)]) (fun k w' => St w NoF w' [Blk b8 (.cells #[.slice t9 k9 u9, .slice t10 m10 u10] 57 (0, 0)), TabN t9 k9 u9 (qs4.map rawN), OwnN qs4, dE t10 m10 u10 rs4, Own rs4 es4, RowU a8 Tl.length Tl.length Tl] ∧ k ≤ k9) (fun k => k9 - k) 0 ⟨hs.sel [3, 4, 5, 6, 7, 8] (by decide), Nat.zero_le _⟩ zss ?_
    rintro k w5 ⟨hs1, hk⟩ ih
    have hs : St w NoF w5 [_, _, _, _, _, _] := hs1
    by_cases hlt : k < k9
    · obtain ⟨p9, o9, rfl⟩ := (hs.row t9 k9 u9).some (by omega)
      have hs : St w NoF w5 [_, _, _, _, _, _] := hs1
      obtain ⟨q, hqk⟩ : ∃ q, qs4[k]? = some q := ⟨_, List.getElem?_eq_getElem (by omega)⟩
      have hqM := List.mem_of_getElem? hqk
      have hrk : (qs4.map rawN)[k]? = some (rawN q) := by rw [List.getElem?_map, hqk]; rfl
      obtain ⟨u, ⟨⟨qa1, qn1, qc1⟩, l1⟩, ⟨⟨qa2, qn2, qc2⟩, l2⟩, ⟨⟨qa3, qn3, qc3⟩, l3⟩⟩ := q
      obtain ⟨⟨_, _⟩, ⟨hn2', ho2'⟩, hn3', ho3'⟩ := ho4 _ hqM
      have hzD : gK (u, ((qa1, qn1, qc1), l1), ((qa2, qn2, qc2), l2), ((qa3, qn3, qc3), l3)) ∈ D := by rw [← hq4]; exact List.mem_map_of_mem hqM
      obtain ⟨hz2, hz3⟩ := hsD _ hzD
      obtain ⟨_, hb2, hb3⟩ := hDT.2 _ hzD
      dsimp only at hz2 hz3 hb2 hb3 hn2' ho2' hn3' ho3'
      have hle2 := (show Sl dStp All _ qa2 qn2 qc2 l2 from rG (qs := qs4) (q := (u, ((qa1, qn1, qc1), l1), ((qa2, qn2, qc2), l2), ((qa3, qn3, qc3), l3))) hs zmm ho4 hqM).le
      have hpl2 : qa2 = none ∨ ∃ b o, qa2 = some ⟨b, o, none⟩ := sW (qs := qs4) (q := (u, ((qa1, qn1, qc1), l1), ((qa2, qn2, qc2), l2), ((qa3, qn3, qc3), l3))) hs zmm hqM
      by_cases hm0 : qn3 = 0
      · skip
        repeat' (first | ((apply ax_c; apply JX_c (t := 98) (S := fun W _ v w' => v = .slice qa2 qn2 qn2 ∧ w' = W); exact rfl; (intro W X hN hs; apply dL; exact tR (a := qa2) (n := qn2) (c := qn2) (cx := qc3) (ax := qa3) rfl (by exact congrArg (fun m => some (Value.slice qa3 m qc3)) hm0) hpl2 (Nat.le_refl _) ⟨rfl, rfl⟩); (rintro W _ _ _ ⟨_, rfl⟩; exact Rl.refl _); exact rfl; rintro W X _ _ hN hs ⟨rfl, rfl⟩; refine JX.at hs ?_)) | (apply aS) | ((first | (apply aJ) | (apply tU; exact rfl; intro W hs)); (first | (apply dP; exact eI (kl := .i64) (kh := .i64) (km := .i64) (a' := qa2) (l := 0) (h := (qn2 : Nat)) (m := (qn2 : Nat)) rfl (.inl ⟨rfl, rfl⟩) (.inr ⟨_, rfl, rfl⟩) (.inr ⟨_, rfl, rfl⟩) (by omega) (by omega) (by omega) (Int.ofNat_le.2 hle2) (by split; rfl; exact zB _) (by rw [Int.sub_zero, Int.toNat_natCast]; exact aA)) | (apply aW; first | exact aX hs rfl rfl aA | exact aI hs rfl aA | exact bF (slRN (rs := qs4.map rawN) hs zmm) hrk rfl rfl aA) | (apply aQ; exact aH rfl aA) | (apply aR; exact aM rfl rfl aA) | (apply aL; exact aN rfl rfl rfl aA) | (apply bK; exact bX rfl aA) | (apply aP; exact aO rfl rfl (by omega) (by omega) aA)); first | (exact rfl; exact rfl) | exact rfl) | (apply bC) | (apply aG) | (apply bD) | (apply bJ) | (apply aK (t := 13); refine JL_o (by apply bB; exact aU hs) rfl rfl ?_; rintro _ _ ⟨b13, rfl, hb13, hs, hE⟩) | (apply bG; refine JL_u (by apply bA; exact aY hs rfl rfl rfl) rfl ?_; rintro _ _ ⟨hs, hF⟩) | (apply aT; refine bI rfl ob ?_) | (apply cW; (refine tT (id := 14) [0, 1, 0, 4, 12, 0, 32, 96, 255, 0, 512, 2047, 4095, 0] [(0, 0), (1, 0), (2, 0), (3, 0), (4, 0), (5, 0), (6, 0), (7, 0), (8, 0), (9, 0), (10, 0), (13, 0), (11, 1), (12, 0)] [] hs eJ (by kernel_rfl) (by kernel_rfl) (by kernel_rfl) (by kernel_rfl) (by kernel_rfl) ?_; intro NZ hNZ)) | (refine cV (fun W hs => ?_)) | (apply dI))
        have hst : ∀ s ∈ l2, s.2 ≠ x := hz2
        have hsl : l2.length = qn2 := hn2'.symm
        refine dF (α := Nat) [(1, _), (6, _), (8, _), (81, _), (82, _), (83, _), (98, _), (99, _)] (fun j => [(100, .int .i64 j)]) (fun j w' => St w NoF w' [Blk b8 (.cells #[.slice (some ⟨p9, o9, none⟩) k9 u9, .slice t10 m10 u10] 57 (0, 0)), TabN (some ⟨p9, o9, none⟩) k9 u9 (qs4.map rawN), OwnN qs4, dE t10 m10 u10 rs4, Own rs4 es4, RowU a8 Tl.length Tl.length Tl] ∧ j ≤ qn2) (fun j => qn2 - j) 0 ⟨hs.sel [1, 2, 3, 4, 5, 6] (by decide), Nat.zero_le _⟩ zss ?_
        rintro j w6 ⟨hs1, hj⟩ ih2
        have hs : St w NoF w6 [_, _, _, _, _, _] := hs1
        by_cases hjl : j < qn2
        · obtain ⟨s, hsg⟩ : ∃ s, l2[j]? = some s := ⟨_, List.getElem?_eq_getElem (by omega)⟩
          have hsx : ¬ s.2 = x := hst s (List.mem_of_getElem? hsg)
          obtain ⟨p8, o8, rfl⟩ := (show Sl dStp All _ qa2 qn2 qc2 l2 from rG (qs := qs4) (q := (u, ((qa1, qn1, qc1), l1), ((qa2, qn2, qc2), l2), ((qa3, qn3, qc3), l3))) hs zmm ho4 hqM).sl.addr (by omega)
          have hs : St w NoF w6 [_, _, _, _, _, _] := hs1
          repeat' (first | (apply aS) | ((apply aJ); (first | (apply aW; first | exact aX hs rfl rfl aA | exact aI hs rfl aA | exact bF (show Sl dStp All _ (some ⟨p8, o8, none⟩) qn2 qc2 l2 from rG (qs := qs4) (q := (u, ((qa1, qn1, qc1), l1), (((some ⟨p8, o8, none⟩), qn2, qc2), l2), ((qa3, qn3, qc3), l3))) hs zmm ho4 hqM) hsg rfl rfl aA) | (apply aQ; exact aH rfl aA) | (apply aR; exact aM rfl rfl aA) | (apply cJ; exact bV rfl rfl (by omega) (by first | (simp only [Int.reduceAdd]; exact rfl) | exact rfl) aA) | (apply aL; exact aN rfl rfl rfl aA) | (apply aP; exact aO rfl rfl (by omega) (by omega) aA)); first | (exact rfl; exact rfl) | exact rfl) | (apply bC) | (apply aG) | (apply bD) | (apply bO) | (apply bJ) | (apply aK (t := 15); refine JL_o (by apply bB; exact aU hs) rfl rfl ?_; rintro _ _ ⟨b15, rfl, hb15, hs, hE⟩) | (apply bG; refine JL_u (by apply bA; exact aY hs rfl rfl rfl) rfl ?_; rintro _ _ ⟨hs, hF⟩) | (apply aT; first | refine bI rfl ob ?_ | refine bN rfl ob ?_))
          refine ih2 (j + 1) _ _ ⟨hs.sel [1, 2, 3, 4, 5, 6] (by decide), by omega⟩ (by omega) zss
        · repeat' (first | (apply aS) | ((apply aJ); (first | (apply aQ; exact aH rfl aA) | (apply cJ; exact bV rfl rfl (by omega) (by first | (simp only [Int.reduceAdd]; exact rfl) | exact rfl) aA) | (apply aL; exact aN rfl rfl rfl aA)); first | (exact rfl; exact rfl) | exact rfl) | (apply bC) | (apply aG) | (apply bO) | (apply cI; refine cY rfl ?_) | (apply aT; refine bN rfl ob ?_))
          refine ih (k + 1) _ _ ⟨hs.sel [0, 1, 2, 3, 4, 5] (by decide), by omega⟩ (by omega) zss
      · skip
        repeat' (first | ((apply ax_c; apply JX_c (t := 98); exact rfl; (intro W X hN hs; apply dL; exact oM (a := qa2) (n := qn2) (c := qn2) (ax := qa3) (m := qn3) (cx := qc3) (xs := encL cT l2) (news := encL cT l3) hs rfl rfl (show Sl dStp All _ qa2 qn2 qc2 l2 from rG (qs := qs4) (q := (u, ((qa1, qn1, qc1), l1), ((qa2, qn2, qc2), l2), ((qa3, qn3, qc3), l3))) hs zmm ho4 hqM).srcF.1 (show Sl dStp All _ qa2 qn2 qc2 l2 from rG (qs := qs4) (q := (u, ((qa1, qn1, qc1), l1), ((qa2, qn2, qc2), l2), ((qa3, qn3, qc3), l3))) hs zmm ho4 hqM).srcF.2.1 (show Sl dStp All _ qa3 qn3 qc3 l3 from slRow3 (qs := qs4) (q := (u, ((qa1, qn1, qc1), l1), ((qa2, qn2, qc2), l2), ((qa3, qn3, qc3), l3))) hs zmm ho4 hqM).srcF.1 (show Sl dStp All _ qa3 qn3 qc3 l3 from slRow3 (qs := qs4) (q := (u, ((qa1, qn1, qc1), l1), ((qa2, qn2, qc2), l2), ((qa3, qn3, qc3), l3))) hs zmm ho4 hqM).srcF.2.1 (by omega) rfl (by omega) (by unfold maxLen; omega)); (rintro _ _ _ _ ⟨_, _, rfl, _, hE⟩; exact Ext.rl hE); exact rfl; rintro W X _ _ hN hs ⟨b9, c9, rfl, hs, hE⟩; refine JX.at hs ?_)) | (apply aS) | ((first | (apply aJ) | (apply tU; exact rfl; intro W hs)); (first | (apply dP; exact eI (kl := .i64) (kh := .i64) (km := .i64) (a' := qa2) (l := 0) (h := (qn2 : Nat)) (m := (qn2 : Nat)) rfl (.inl ⟨rfl, rfl⟩) (.inr ⟨_, rfl, rfl⟩) (.inr ⟨_, rfl, rfl⟩) (by omega) (by omega) (by omega) (Int.ofNat_le.2 hle2) (by split; rfl; exact zB _) (by rw [Int.sub_zero, Int.toNat_natCast]; exact aA)) | (apply aW; first | exact aX hs rfl rfl aA | exact aI hs rfl aA | exact bF (slRN (rs := qs4.map rawN) hs zmm) hrk rfl rfl aA) | (apply aQ; exact aH rfl aA) | (apply aR; exact aM rfl rfl aA) | (apply aL; exact aN rfl rfl rfl aA) | (apply bK; exact bX rfl aA) | (apply aP; exact aO rfl rfl (by omega) (by omega) aA)); first | (exact rfl; exact rfl) | exact rfl) | (apply bC) | (apply aG) | (apply bD) | (apply bJ) | (apply aK (t := 13); refine JL_o (by apply bB; exact aU hs) rfl rfl ?_; rintro _ _ ⟨b13, rfl, hb13, hs, hE⟩) | (apply bG; refine JL_u (by apply bA; exact aY hs rfl rfl rfl) rfl ?_; rintro _ _ ⟨hs, hF⟩) | (apply aT; refine bI rfl ob ?_) | (apply cW; (refine tT (id := 14) [0, 1, 0, 4, 12, 0, 32, 96, 255, 0, 512, 2047, 4095, 0] [(0, 0), (1, 0), (2, 0), (3, 0), (4, 0), (5, 0), (6, 0), (7, 0), (8, 0), (9, 0), (10, 0), (13, 0), (11, 1), (12, 0)] [] hs eJ (by kernel_rfl) (by kernel_rfl) (by kernel_rfl) (by kernel_rfl) (by kernel_rfl) ?_; intro NZ hNZ)) | (refine cV (fun W hs => ?_)) | (apply dI))
        rw [← gO] at hs
        have hst : ∀ s ∈ l2 ++ l3, s.2 ≠ x := fun s hs => (List.mem_append.1 hs).elim (hz2 s) (hz3 s)
        have hsto : ∀ s ∈ l2 ++ l3, okT s := fun s hs => (List.mem_append.1 hs).elim (ho2' s) (ho3' s)
        have hsl : (l2 ++ l3).length = qn2 + qn3 := by rw [List.length_append, ← hn2', ← hn3']
        refine dF (α := Nat) [(1, _), (6, _), (8, _), (81, _), (82, _), (83, _), (98, _), (99, _)] (fun j => [(100, .int .i64 j)]) (fun j w' => St w NoF w' [RowT (some ⟨b9, 0, none⟩) (qn2 + qn3) c9 (l2 ++ l3), Blk b8 (.cells #[.slice (some ⟨p9, o9, none⟩) k9 u9, .slice t10 m10 u10] 57 (0, 0)), TabN (some ⟨p9, o9, none⟩) k9 u9 (qs4.map rawN), OwnN qs4, dE t10 m10 u10 rs4, Own rs4 es4, RowU a8 Tl.length Tl.length Tl] ∧ j ≤ (qn2 + qn3)) (fun j => (qn2 + qn3) - j) 0 ⟨hs.sel [0, 2, 3, 4, 5, 6, 7] (by decide), Nat.zero_le _⟩ zss ?_
        rintro j w6 ⟨hs1, hj⟩ ih2
        have hs : St w NoF w6 [_, _, _, _, _, _, _] := hs1
        by_cases hjl : j < (qn2 + qn3)
        · obtain ⟨s, hsg⟩ : ∃ s, (l2 ++ l3)[j]? = some s := ⟨_, List.getElem?_eq_getElem (by omega)⟩
          have hsx : ¬ s.2 = x := hst s (List.mem_of_getElem? hsg)
          repeat' (first | (apply aS) | ((apply aJ); (first | (apply aW; first | exact aX hs rfl rfl aA | exact aI hs rfl aA | exact bF (slTr (xs := l2 ++ l3) hs zmm hsto) hsg rfl rfl aA) | (apply aQ; exact aH rfl aA) | (apply aR; exact aM rfl rfl aA) | (apply cJ; exact bV rfl rfl (by omega) (by first | (simp only [Int.reduceAdd]; exact rfl) | exact rfl) aA) | (apply aL; exact aN rfl rfl rfl aA) | (apply aP; exact aO rfl rfl (by omega) (by omega) aA)); first | (exact rfl; exact rfl) | exact rfl) | (apply bC) | (apply aG) | (apply bD) | (apply bO) | (apply bJ) | (apply aK (t := 15); refine JL_o (by apply bB; exact aU hs) rfl rfl ?_; rintro _ _ ⟨b15, rfl, hb15, hs, hE⟩) | (apply bG; refine JL_u (by apply bA; exact aY hs rfl rfl rfl) rfl ?_; rintro _ _ ⟨hs, hF⟩) | (apply aT; first | refine bI rfl ob ?_ | refine bN rfl ob ?_))
          refine ih2 (j + 1) _ _ ⟨hs.sel [1, 2, 3, 4, 5, 6, 7] (by decide), by omega⟩ (by omega) zss
        · repeat' (first | (apply aS) | ((apply aJ); (first | (apply aQ; exact aH rfl aA) | (apply cJ; exact bV rfl rfl (by omega) (by first | (simp only [Int.reduceAdd]; exact rfl) | exact rfl) aA) | (apply aL; exact aN rfl rfl rfl aA)); first | (exact rfl; exact rfl) | exact rfl) | (apply bC) | (apply aG) | (apply bO) | (apply cI; refine cY rfl ?_) | (apply aT; refine bN rfl ob ?_))
          refine ih (k + 1) _ _ ⟨hs.sel [1, 2, 3, 4, 5, 6] (by decide), by omega⟩ (by omega) zss
    · repeat' (first | (apply aS) | ((apply aJ); (apply aL; exact aN rfl rfl rfl aA); first | (exact rfl; exact rfl) | exact rfl) | (apply bC) | (apply aG) | (apply cI; refine cY rfl ?_) | (apply aT; refine bN rfl ob ?_))
      refine hcont () _ _ hs zss
  · refine tV ?_
    rintro _ w5 hs1
    have hs : St w NoF w5 [_, _, _, _, _, _] := hs1
    have hofE : ofE D es4 Tl = 0 := by unfold ofE; rw [hcD]; exact hofC
    have hgB : GR (setN D (dV D) (newN Tl)) := by have := (of_GR gD hofC).1; rwa [hofL] at this
    have hTl14 : Tl.length ≤ 1000 := by
      rw [e2]
      have := (hT.2 y (List.mem_of_getElem? hy)).1
      omega
    have hszB := setN_sz (T := Tl) hszD hTl14
    have hfl := fJ D
    have hlx : ((dV D + 1 : Nat) : Int) ≤ x := by omega
    have hix : (((dV D + 1 : Nat) : Int) - 1).toNat = dV D := by omega
    repeat' (first | ((apply aV 33; refine JL_o (by exact aB en33 rfl ((gOf_r _ t9 t10 a8 k9 u9 m10 u10 Tl.length Tl.length D es4 Tl (slG (qs := qs4) hs hq4 ho4 zmm zmm) (iS (rs := rs4) hs zmm zmm) (slU (xs := Tl) hs zmm hTo) (by omega) hx4 hszD).mono (fun _ _ r => by have r2 := r.ok hofE; rw [hofL, hofn] at r2; exact r2))) rfl rfl ?_; rintro _ _ ⟨t13, k13, u13, t14, m14, u14, rfl, hk13, qs5, es5, rs5, ⟨hq5, ho5⟩, ⟨he5, hA5⟩, ⟨hl5, hm5, hx5⟩, hf⟩; have hs := hs.fresh hf; simp only [zcc] at hs; have hcB : eC (setN D (dV D) (newN Tl)) es5 = true := check_iff.2 ⟨hgB, he5, hA5⟩; obtain ⟨uB, r1B, a2B, c2B, a3B, c3B, hrB, hfq⟩ := new_at hq5 ho5; have hrB2 : (qs5.map rawN)[(((dV D + 1 : Nat) : Int) - 1).toNat]? = some (uB, r1B, (a2B, 0, c2B), (a3B, 0, c3B)) := (by rw [hix]; exact hrB); have hqn5 : qs5.length = k13 := (by have := congrArg List.length hq5; rw [List.length_map] at this; omega); obtain ⟨p13, o13, rfl⟩ := (hs.row t13 k13 u13).some (by omega); (try simp only [zcc] at hs))) | ((apply ax_c; apply dN 46; exact rfl; exact rfl; exact gb; (intro W X hN hs; exact aB en46 rfl ((dK _ (some ⟨p13, o13, none⟩) t14 k13 u13 m14 u14 (setN D (dV D) (newN Tl)) es5 (slG (qs := qs5) hs hq5 ho5 zmm zmm) (iS (rs := rs5) hs zmm zmm) hx5 hszB).mono (fun _ _ r => by rw [jC hcB] at r; exact r))); (rintro _ _ _ _ ⟨rfl, hE⟩; first | exact hE | exact Fresh.ext hf); rintro W X _ _ hN hs ⟨rfl, hE⟩; have hs := hs.ext hE; (try simp only [zcc] at hs); refine JX.at hs ?_)) | (apply aS) | ((first | (apply aJ) | (apply JX_f; exact rfl; intro W X hs) | (apply eZ; exact rfl; exact rfl; exact gb; intro W X hs)); (first | (apply aW; first | exact aX hs rfl rfl aA | exact aI hs rfl aA | exact cD (i := (((dV D + 1 : Nat) : Int) - 1).toNat) (j := 2) (slRN (rs := qs5.map rawN) hs zmm) hrB2 rfl rfl rfl aA | exact cD (i := (((dV D + 1 : Nat) : Int) - 1).toNat) (j := 3) (slRN (rs := qs5.map rawN) hs zmm) hrB2 rfl rfl rfl aA) | (apply aQ; exact aH rfl aA) | (apply aF; exact aC rfl aA) | (apply aR; first | exact aM rfl rfl aA | exact bL rfl rfl aA) | (apply cJ; exact aN rfl rfl rfl aA) | (apply eD; exact dH rfl rfl (by omega) aA) | (apply aL; exact aN rfl rfl rfl aA) | (apply cB; exact bS rfl gb rfl aA) | (apply bK; exact bX rfl aA) | (apply bR; exact bM rfl rfl aA) | (apply aP; exact aO rfl rfl (by omega) (by omega) aA)); first | (exact rfl; exact rfl) | exact rfl) | (apply bC) | (apply aG) | (apply aK (t := 16); refine JL_o (by apply bB; exact aU hs) rfl rfl ?_; rintro _ _ ⟨b16, rfl, hb16, hs, hE⟩) | (apply bG; refine JL_u (by apply bA; exact aY hs rfl rfl rfl) rfl ?_; rintro _ _ ⟨hs, hF⟩) | (apply cW; (refine dC (id := 22) [0, 1, 3, 7, 15, 7, 39, 127, 255, 511, 1023, 7, 2055, 7, 8199, 30727, 63495, 129031, 260103, 524287, 1048575, 2097151, 4194303, 8388607, 8388607, 33554431, 67108863, 134217727, 268435455, 536870911, 1073741823, 2147483647, 4294967295] [(0, 0), (1, 0), (2, 0), (3, 0), (4, 0), (5, 0), (6, 0), (7, 0), (8, 0), (9, 0), (10, 0), (11, 0), (12, 0), (13, 0), (14, 0), (15, 0), (16, 0), (17, 0), (18, 0), (19, 0), (20, 0), (21, 0), (22, 0), (23, 0), (24, 0), (25, 0), (26, 0), (27, 0), (28, 0), (29, 1), (30, 0), (31, 0), (32, 0)] [] hs eJ (by kernel_rfl) (by kernel_rfl) (by kernel_rfl) (by kernel_rfl) (by kernel_rfl) ?_)) | (refine cV (fun W hs => ?_)) | (apply dI))
    refine aZ Tryz.func7 rfl (.tmp rfl .nil) ⟨rfl, hs.frm.ext⟩
end Go.Eng
end
