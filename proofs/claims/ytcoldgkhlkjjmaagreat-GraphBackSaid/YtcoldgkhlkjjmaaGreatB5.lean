/- The texts G21, G20, G22, G23, G24, G25, G26, G27, G31, joined: what of them serves. -/
import Derived.Test.YtcoldgkhlkjjmaaGreatB4
section
namespace Go.Eng
open Go.Proofs
set_option linter.unusedSimpArgs false
set_option linter.unusedVariables false
theorem xB {qs : List QN} {k : Nat} {q : QN} (h : qs[k]? = some q) : qs = qs.take k ++ q :: qs.drop (k + 1) := by
  have hk := (List.getElem?_eq_some_iff.1 h).1
  conv => lhs; rw [← List.take_append_drop k qs, List.drop_eq_getElem_cons hk, (List.getElem?_eq_some_iff.1 h).2]
theorem wQ {qs : List QN} {k : Nat} (qn : QN) (hk : k < qs.length) : qs.set k qn = qs.take k ++ qn :: qs.drop (k + 1) := by
  conv => lhs; rw [← List.take_append_drop k qs, List.drop_eq_getElem_cons hk]
  have hl : (qs.take k).length = k := by rw [List.length_take]; omega
  rw [List.set_append_right _ _ (by omega), hl, Nat.sub_self, List.set_cons_zero]
section
variable {w0 w : World} {F : Nat → Prop} {L : List HP}
theorem St.takeN {qs : List QN} {k : Nat} {q : QN} (hq : qs[k]? = some q) (h : St w0 F w (OwnN qs :: L)) : St w0 F w (rowN q :: OwnN (qs.take k ++ qs.drop (k + 1)) :: L) := by
  rw [xB hq] at h
  have := St.outN h
  exact this
theorem St.putN {qs : List QN} {k : Nat} {qn : QN} (hk : k < qs.length) (h : St w0 F w (rowN qn :: OwnN (qs.take k ++ qs.drop (k + 1)) :: L)) : St w0 F w (OwnN (qs.set k qn) :: L) := by
  rw [wQ qn hk]
  exact St.inN h
theorem St.replN {qs : List QN} {k : Nat} {q qn : QN} (hq : qs[k]? = some q) (h : St w0 F w (rowN qn :: OwnN qs :: L)) : St w0 F w (OwnN (qs.set k qn) :: L) := by
  have h1 : St w0 F w (OwnN qs :: rowN qn :: L) := h.perm (.swap _ _ _)
  have h2 := St.takeN hq h1
  have h3 : St w0 F w (rowN qn :: OwnN (qs.take k ++ qs.drop (k + 1)) :: L) := (h2.sub (List.sublist_cons_self _ _)).perm (.swap _ _ _)
  exact St.putN (List.getElem?_eq_some_iff.1 hq).1 h3
theorem St.zeroN (b : Bool) (h : St w0 F w L) : St w0 F w (rowN (b, (z0, []), (z0, []), (z0, [])) :: L) := by
  have h1 := ((h.nilRow 93 2).nilRow 93 2).nilRow 29 1
  exact St.packN (q := (b, (z0, []), (z0, []), (z0, []))) h1
end
theorem vR (b : Bool) : okN (b, (z0, []), (z0, []), (z0, [])) := ⟨⟨rfl, fun x h => by cases h⟩, ⟨rfl, fun x h => by cases h⟩, ⟨rfl, fun x h => by cases h⟩⟩
def GOut (w w' : World) (N' : List NM) (a' : Option Addr) (m' c' : Nat) (a2' : Option Addr) (m2 c2 : Nat) : Prop :=
  ∃ (qs : List QN) (es : List Ent) (rs' : List REnt), (qs.map iX = N' ∧ ∀ q ∈ qs, okN q) ∧ (dF es = true ∧ allM es = fP N') ∧ (N'.length = m' ∧ es.length = m2 ∧ m2 ≤ 1048576) ∧ Fresh w w' [TabN a' m' c' (qs.map rawN), OwnN qs, dN a2' m2 c2 rs', Own rs' es]
theorem wT {N : List NM} {E : List Ent} (h : eG N E = true) {t : List Int} (ht : eF t = true) (hf : gY N t = 0) {v : Int} (hv : 0 ≤ v) : putE E t v = if iD N = 4000 then 6 else 0 := by
  obtain ⟨g, hc, hA⟩ := check_iff.1 h
  have h1 := qT h t
  rw [hf, decide_eq_false (fun e => e rfl)] at h1
  have hp : ¬ 0 ≤ fV E t := fun hp => by
    unfold lH at h1
    rw [if_pos hc, if_neg (by omega)] at h1
    have := congrArg Prod.snd h1
    cases this
  unfold putE
  rw [if_pos hc, if_pos ht, if_neg (by omega), if_neg hp, hA, iS]
theorem vO {N : List NM} {E es : List Ent} (h : eG N E = true) {t : List Int} (hf : gY N t = 0) (hc : dF es = true) (hp : (es.filter eI).Perm (allM E ++ [(1, t, (fO N : Int) + 1)])) : allM es = fP (setN N (fO N) (newN t)) := by
  obtain ⟨g, hcE, hA⟩ := check_iff.1 h
  refine aAi hc (rM g.uniq hf) fun e => ?_
  rw [hp.mem_iff, List.mem_append, List.mem_singleton, vM, hA]
theorem kN {E : List Ent} (h : dF E = true) : LMax E := fun x hx => by have := nE h hx; omega
attribute [local irreducible] Hold J JL JD JX JXat OpR OpG Ret RetV Is Blk Row
set_option maxRecDepth 100000
set_option maxHeartbeats 2000000
theorem gof_r (w : World) (a a2 a3 : Option Addr) (n c n2 c2 n3 c3 : Nat) (N : List NM) (E : List Ent) (t : List Int) (h : Sl jA All w a n c N) (hE0 : Sl dEnt All w a2 n2 c2 E) (ht : Sl dId All w a3 n3 c3 t) (hn : n ≤ 900000) (hn2 : n2 ≤ 1048576) (hz : szN N) (hc : eG N E = true) :
    Ret Tryz.prog 99 #[.agg #[.slice a n c, .slice a2 n2 c2], .slice a3 n3 c3] w fun v w' =>
      (ofC N t ≠ 0 ∧ v = .tuple #[.agg #[.slice none 0 0, .slice none 0 0], .int .i64 0, .int .i64 (ofC N t)] ∧ Ext w w') ∨
      (ofC N t = 0 ∧ ∃ a' m' c' a2' m2 c2', v = .tuple #[.agg #[.slice a' m' c', .slice a2' m2 c2'], .int .i64 (ofn N t), .int .i64 0] ∧ m' ≤ n + 1 ∧ GOut w w' (ofL N t) a' m' c' a2' m2 c2') := by
  refine cJ (l := [_, _]) Tryz.func99 rfl Tryz.ntmps99 (by simp) ?_
  have hs := St.init w
  have hl := h.len
  have hl2 := hE0.len
  have hto := nY ht
  have htl := ht.len
  obtain ⟨g, hcE, hA⟩ := check_iff.1 hc
  have hfg := qT hc t
  obtain ⟨tb, htb⟩ : ∃ b, eF t = b := ⟨_, rfl⟩
  obtain ⟨f1, hf1⟩ : ∃ f, gY N t = f := ⟨_, rfl⟩
  rw [hf1] at hfg
  cases tb with
  | false =>
    have e1 : ofC N t = 130 := by unfold ofC; rw [htb]; rfl
    rw [e1]
    repeat' (first | ((apply aV 59; refine JL_o (by exact aB en59 rfl (dU _ a3 n3 c3 t (ht.st hs))) rfl rfl ?_; rintro _ _ ⟨rfl, hE⟩; rw [htb]; have hs := hs.ext hE; (try simp only [zcc] at hs))) | (apply aU) | ((apply aK); (first | (apply aQ; exact aJ rfl aA) | (apply aF; exact aC rfl aA) | (apply aL; exact aM rfl rfl rfl aA) | (apply dE; exact cW rfl (by (simp only [bld, dB, bY, Value.cells, List.take_succ_cons, List.take_zero, List.drop_succ_cons, List.drop_zero, List.cons_append, List.nil_append, List.length_cons, List.length_nil, List.getElem?_cons_zero, List.getElem?_cons_succ, Option.map_some, List.append_nil, Nat.reduceAdd, Nat.reduceMul, Nat.zero_add, Nat.reduceLeDiff, and_self, if_true, List.toList_toArray, Nat.le_refl, Nat.zero_mul, Nat.one_mul]; first | done | rfl)) aA)); first | (exact rfl; exact rfl) | exact rfl) | (apply bC) | (apply aG) | (apply aH (t := 2); refine JL_o (by apply cA; exact bE hs rfl) rfl rfl ?_; rintro _ _ ⟨b2, rfl, hb2, hs, hE⟩) | (apply aH (t := 4); refine JL_o (by apply bA; exact aR hs) rfl rfl ?_; rintro _ _ ⟨b4, rfl, hb4, hs, hE⟩) | (apply bI; refine JL_u (by apply bB; exact aY hs rfl rfl rfl) rfl ?_; rintro _ _ ⟨hs, hF⟩) | (apply aT; refine bQ rfl gb ?_))
    refine aZ Tryz.func99 rfl (.agg' hs rfl rfl (.tmp rfl (.tmp rfl .nil))) (.inl ⟨by decide, rfl, hs.frm.ext⟩)
  | true =>
  by_cases hf0 : f1 = 0
  rotate_left
  · have hfne : gY N t ≠ 0 := by omega
    have e1 : ofC N t = 0 := by unfold ofC; rw [htb, if_pos rfl, if_pos hfne]
    have e2 : ofL N t = N := by unfold ofL; rw [if_pos e1, if_pos hfne]
    have e3 : ofn N t = f1 := by unfold ofn; rw [if_pos e1, if_pos hfne, hf1]
    have hfd : decide (f1 ≠ 0) = true := decide_eq_true hf0
    rw [hfd] at hfg
    rw [e1, e2, e3]
    repeat' (first | ((apply aV 59; refine JL_o (by exact aB en59 rfl (dU _ a3 n3 c3 t (ht.st hs))) rfl rfl ?_; rintro _ _ ⟨rfl, hE⟩; rw [htb]; have hs := hs.ext hE; (try simp only [zcc] at hs))) | ((apply aV 119; refine JL_o (by exact aB tM rfl (oD _ a2 n2 c2 E a3 n3 c3 t (hE0.st hs) hn2 (ht.st hs))) rfl rfl ?_; rintro _ _ ⟨rfl, hE⟩; rw [hfg]; have hs := hs.ext hE; (try simp only [zcc] at hs))) | ((apply aV 107; refine JL_o (by exact aB zU rfl (tE _ a a2 n c n2 c2 N E (h.st hs) (hE0.st hs) (by omega) hn2 hz (kN hcE))) rfl rfl ?_; rintro _ _ ⟨qs, rs', a', a2', ⟨hqm, hqo⟩, rfl, hf⟩; have hs := hs.fresh hf; (try simp only [zcc] at hs))) | (apply aU) | ((apply aK); (first | (apply aQ; exact aJ rfl aA) | (apply aF; exact aC rfl aA) | (apply aS; exact aN rfl rfl aA) | (apply aX; exact aI hs rfl aA) | (apply aL; exact aM rfl rfl rfl aA) | (apply cD; exact bU rfl rfl aA)); first | (exact rfl; exact rfl) | exact rfl) | (apply bC) | (apply aG) | (apply bK) | (apply aH (t := 2); refine JL_o (by apply cA; exact bE hs rfl) rfl rfl ?_; rintro _ _ ⟨b2, rfl, hb2, hs, hE⟩) | (apply aH (t := 4); refine JL_o (by apply bA; exact aR hs) rfl rfl ?_; rintro _ _ ⟨b4, rfl, hb4, hs, hE⟩) | (apply bI; refine JL_u (by apply bB; exact aY hs rfl rfl rfl) rfl ?_; rintro _ _ ⟨hs, hF⟩) | (apply aT; first | refine bQ rfl gb ?_ | refine bM rfl gb ?_))
    refine aZ Tryz.func99 rfl (.agg' hs rfl rfl (.tmp rfl (.tmp rfl .nil))) (.inr ⟨rfl, a', n, n, a2', n2, n2, rfl, by omega, qs, E, rs', ⟨hqm, hqo⟩, ⟨hcE, hA⟩, ⟨hl, hl2, hn2⟩, hs.out (by simp)⟩)
  have hfz : gY N t = 0 := by omega
  have hfd : decide (f1 ≠ 0) = false := decide_eq_false (fun e => e hf0)
  rw [hfd] at hfg
  repeat' (first | ((apply aV 59; refine JL_o (by exact aB en59 rfl (dU _ a3 n3 c3 t (ht.st hs))) rfl rfl ?_; rintro _ _ ⟨rfl, hE⟩; rw [htb]; have hs := hs.ext hE; (try simp only [zcc] at hs))) | ((apply aV 119; refine JL_o (by exact aB tM rfl (oD _ a2 n2 c2 E a3 n3 c3 t (hE0.st hs) hn2 (ht.st hs))) rfl rfl ?_; rintro _ _ ⟨rfl, hE⟩; rw [hfg]; have hs := hs.ext hE; (try simp only [zcc] at hs))) | (apply aU) | ((apply aK); (first | (apply aQ; exact aJ rfl aA) | (apply aF; exact aC rfl aA) | (apply aS; exact aN rfl rfl aA) | (apply aX; exact aI hs rfl aA) | (apply aL; exact aM rfl rfl rfl aA) | (apply cD; exact bU rfl rfl aA)); first | (exact rfl; exact rfl) | exact rfl) | (apply bC) | (apply aG) | (apply bD) | (apply bK) | (apply aH (t := 2); refine JL_o (by apply cA; exact bE hs rfl) rfl rfl ?_; rintro _ _ ⟨b2, rfl, hb2, hs, hE⟩) | (apply aH (t := 4); refine JL_o (by apply bA; exact aR hs) rfl rfl ?_; rintro _ _ ⟨b4, rfl, hb4, hs, hE⟩) | (apply aT; refine bM rfl gb ?_))
  refine dK (α := Nat) [(1, _), (2, _), (4, _)] (fun k => [(9, .int .i64 ((k : Int) + 1))]) (fun k w' => St w NoF w' [Blk b4 (.cells #[.slice none 0 0, .slice none 0 0] 57 (0, 0)), Blk b2 (.cells #[.slice a n c, .slice a2 n2 c2] 57 (0, 0))] ∧ k ≤ n ∧ ∀ (i : Nat) (x : NM), N[i]? = some x → i < k → x.1 = true) (fun k => n - k) 0 ⟨hs, Nat.zero_le _, fun i x _ hi => absurd hi (Nat.not_lt_zero _)⟩ zss ?_
  rintro k w2 ⟨hs1, hk, hall⟩ ih
  have hs : St w NoF w2 [_, _] := hs1
  have hki : inK .i64 ((k : Int) + 1) := by unfold inK; simp only [IntKind.min, IntKind.max, IntKind.bits, IntKind.signed]; omega
  by_cases hgo : isM N ((k : Int) + 1) = true
  · obtain ⟨j, y, hj, hy, hyu⟩ := isM_true.1 hgo
    have hjk : j = k := by omega
    subst hjk
    have hjl := (List.getElem?_eq_some_iff.1 hy).1
    repeat' (first | ((apply aV 105; refine JL_o (by exact aB fI rfl (is_r _ a a2 n c n2 c2 N ((j : Int) + 1) (h.st hs) hki)) rfl rfl ?_; rintro _ _ ⟨rfl, hE⟩; rw [hgo]; have hs := hs.ext hE; (try simp only [zcc] at hs))) | (apply aU) | ((apply aK); (first | (apply aX; first | exact aW hs rfl rfl aA | exact aI hs rfl aA) | (apply aQ; exact aJ rfl aA) | (apply aF; exact aC rfl aA) | (apply cO; exact bT rfl rfl (by omega) (by first | (simp only [Int.reduceAdd]; exact rfl) | exact rfl) aA)); first | (exact rfl; exact rfl) | exact rfl) | (apply bC) | (apply aG) | (apply bD) | (apply bP) | (apply bK) | (apply aT; refine bQ rfl gb ?_))
    refine ih (j + 1) _ _ ⟨hs, by omega, fun i x hx hi => ?_⟩ (by omega) zss
    by_cases e : i = j
    · subst e; rw [hy] at hx; cases hx; exact hyu
    · exact hall i x hx (by omega)
  have hgo : isM N ((k : Int) + 1) = false := by simpa using hgo
  have hfk : fO N = k := xC (by omega) hall (fun x hx => by
    cases hxu : x.1 with
    | false => rfl
    | true => rw [isM_true.2 ⟨k, x, rfl, hx, hxu⟩] at hgo; cases hgo)
  have hput := wT (v := (k : Int) + 1) hc htb hfz (by omega)
  by_cases hmu : iD N = 4000
  · have e1 : ofC N t = 6 := by unfold ofC; rw [htb, if_pos rfl, if_neg (fun e => e hfz), if_pos hmu]
    rw [if_pos hmu] at hput
    rw [e1]
    repeat' (first | ((apply aV 105; refine JL_o (by exact aB fI rfl (is_r _ a a2 n c n2 c2 N ((k : Int) + 1) (h.st hs) hki)) rfl rfl ?_; rintro _ _ ⟨rfl, hE⟩; rw [hgo]; have hs := hs.ext hE; (try simp only [zcc] at hs))) | ((apply aV 132; refine JL_o (by exact aB en132 rfl (put_bad _ a2 n2 c2 E a3 n3 c3 t ((k : Int) + 1) (hE0.st hs) hn2 (ht.st hs) hki (by rw [hput]; decide))) rfl rfl ?_; rintro _ _ ⟨rfl, hE⟩; rw [hput]; have hs := hs.ext hE; (try simp only [zcc] at hs))) | (apply aU) | ((apply aK); (first | (apply aX; first | exact aW hs rfl rfl aA | exact aI hs rfl aA) | (apply aQ; exact aJ rfl aA) | (apply aF; exact aC rfl aA) | (apply aS; exact aN rfl rfl aA) | (apply aL; exact aM rfl rfl rfl aA) | (apply cD; exact bU rfl rfl aA) | (apply dE; exact cW rfl (by (simp only [bld, dB, bY, Value.cells, List.take_succ_cons, List.take_zero, List.drop_succ_cons, List.drop_zero, List.cons_append, List.nil_append, List.length_cons, List.length_nil, List.getElem?_cons_zero, List.getElem?_cons_succ, Option.map_some, List.append_nil, Nat.reduceAdd, Nat.reduceMul, Nat.zero_add, Nat.reduceLeDiff, and_self, if_true, List.toList_toArray, Nat.le_refl, Nat.zero_mul, Nat.one_mul]; first | done | rfl)) aA)); first | (exact rfl; exact rfl) | exact rfl) | (apply bC) | (apply aG) | (apply cK; refine cY rfl ?_) | (apply aH (t := 10); refine JL_o (by apply bA; exact aR hs) rfl rfl ?_; rintro _ _ ⟨b10, rfl, hb10, hs, hE⟩) | (apply bI; refine JL_u (by apply bB; exact aY hs rfl rfl rfl) rfl ?_; rintro _ _ ⟨hs, hF⟩) | (apply aT; first | refine bH rfl ob ?_ | refine bM rfl gb ?_))
    refine aZ Tryz.func99 rfl (.agg' hs rfl rfl (.tmp rfl (.tmp rfl .nil))) (.inl ⟨by decide, rfl, hs.frm.ext⟩)
  have e1 : ofC N t = 0 := by unfold ofC; rw [htb, if_pos rfl, if_neg (fun e => e hfz), if_neg hmu]
  have e2 : ofL N t = setN N (fO N) (newN t) := by unfold ofL; rw [if_pos e1, if_neg (fun e => e hfz)]
  have e3 : ofn N t = fO N + 1 := by unfold ofn; rw [if_pos e1, if_neg (fun e => e hfz)]
  rw [if_neg hmu] at hput
  rw [e1, e2, e3, hfk]
  have ht12 := (typeB_iff.1 htb).1
  have ik : ((k : Int) + 1 - 1).toNat = k := by omega
  by_cases hkn : k = n
  · have hgt : (k : Int) + 1 > n := by omega
    have hbnd : 0 ≤ (k : Int) + 1 - 1 ∧ (k : Int) + 1 - 1 < (n + 1 : Nat) := by omega
    repeat' (first | ((apply aV 105; refine JL_o (by exact aB fI rfl (is_r _ a a2 n c n2 c2 N ((k : Int) + 1) (h.st hs) hki)) rfl rfl ?_; rintro _ _ ⟨rfl, hE⟩; rw [hgo]; have hs := hs.ext hE; (try simp only [zcc] at hs))) | ((apply aV 132; refine JL_o (by exact aB en132 rfl (yJ _ a2 n2 c2 E a3 n3 c3 t ((k : Int) + 1) (hE0.st hs) hn2 (ht.st hs) hki hput)) rfl rfl ?_; rintro _ _ ⟨es1, rs1, a4, ⟨hce1, hpe1, hle1⟩, rfl, hf⟩; have hs := hs.fresh hf; (try simp only [zcc] at hs))) | ((apply aV 107; refine JL_o (by exact aB zU rfl (tE _ a a4 n c es1.length es1.length N es1 (h.st hs) (dI hs zmm zmm) (by omega) hle1 hz (kN hce1))) rfl rfl ?_; rintro _ _ ⟨qs, rs', a', a2', ⟨hqm, hqo⟩, rfl, hf⟩; have hs := hs.fresh hf; have hql : qs.length = n := (by have := congrArg List.length hqm; rw [List.length_map] at this; omega); have hset : ∀ u : RNd, bY (encL cNd (qs.map rawN ++ [r00])) (((k : Int) + 1 - 1).toNat * 4) (cNd u) = encL cNd (qs.map rawN ++ [u]) := (fun u => by rw [ik, rU _ _ _ (by rw [List.length_append, List.length_map, hql, hkn]; simp), List.set_append_right _ _ (by rw [List.length_map]; omega), List.length_map, hql, hkn, Nat.sub_self]; rfl); (try simp only [zcc] at hs))) | ((apply ax_c; apply eH 114; exact rfl; (intro W X hN hs; exact aB zT rfl (lU _ a3 n3 c3 t (ht.st hs) (by omega))); (rintro _ _ _ _ ⟨a9, rfl, hf⟩; first | exact hE | exact Fresh.ext hf); rintro W X _ _ hN hs ⟨a9, rfl, hf⟩; have hs := hs.fresh hf; (try simp only [zcc] at hs); refine JX.at hs ?_)) | ((apply aH (t := 57); refine JL_o (by apply dW; exact gC (xs := encL cNd (qs.map rawN)) (news := cNd r00) hs rfl rfl (vI (r := r00) (hs.blk (b := b56))) fN rfl (by omega) (by unfold maxLen; omega)) rfl rfl ?_; rintro _ _ ⟨a6, c6, rfl, hs, hF, hnil⟩; rw [tH] at hs; obtain ⟨b, o, rfl⟩ := (hs.row a6 (n + 1) c6).some (by omega))) | ((apply bI; refine JL_u (by apply bB; exact dQ (b := b) (o := o) (off := ((k : Int) + 1 - 1).toNat * 4) (n := n + 1) (c := c6) (vs := cNd (rNew (a9, n3, n3))) hs rfl rfl rfl rfl (by simp [Value.oneCell']) (by show ((k : Int) + 1 - 1).toNat * 4 + 4 ≤ (n + 1) * 4; omega)) rfl ?_; rintro _ _ ⟨hs, hF⟩; rw [hset] at hs)) | (apply aU) | ((first | (apply aK) | (apply JX_f; exact rfl; intro W X hs)); (first | (apply aX; first | exact aW hs rfl rfl aA | exact aI hs rfl aA) | (apply aQ; exact aJ rfl aA) | (apply aF; exact aC rfl aA) | (apply aS; exact aN rfl rfl aA) | (apply eW; exact dS rfl rfl (by omega) aA) | (apply aL; exact aM rfl rfl rfl aA) | (apply bO; exact bZ rfl aA) | (apply cD; exact bU rfl rfl aA) | (apply aP; exact aO rfl rfl (by omega) (by omega) aA) | (apply dE; exact cW rfl (by (simp only [bld, dB, bY, Value.cells, List.take_succ_cons, List.take_zero, List.drop_succ_cons, List.drop_zero, List.cons_append, List.nil_append, List.length_cons, List.length_nil, List.getElem?_cons_zero, List.getElem?_cons_succ, Option.map_some, List.append_nil, Nat.reduceAdd, Nat.reduceMul, Nat.zero_add, Nat.reduceLeDiff, and_self, if_true, List.toList_toArray, Nat.le_refl, Nat.zero_mul, Nat.one_mul]; first | done | rfl)) aA)); first | (exact rfl; exact rfl) | exact rfl) | (apply bC) | (apply aG) | (apply cK; refine cY rfl ?_) | (apply bK) | (apply aH (t := 10); refine JL_o (by apply bA; exact aR hs) rfl rfl ?_; rintro _ _ ⟨b10, rfl, hb10, hs, hE⟩) | (apply aH (t := 56); refine JL_o (by apply dA; exact cS hs rfl (by omega) rfl) rfl rfl ?_; rintro _ _ ⟨b56, rfl, hb56, hs, hE⟩) | (apply bI; refine JL_u (by apply bB; exact aY hs rfl rfl rfl) rfl ?_; rintro _ _ ⟨hs, hF⟩) | (apply aT; first | refine bH rfl ob ?_ | refine bL rfl ob ?_ | refine bM rfl gb ?_) | (apply cZ; (refine dD (id := 16) [0, 1, 0, 4, 0, 16, 48, 127, 255] [(0, 0), (1, 0), (2, 0), (3, 0), (4, 0), (5, 1), (6, 0), (7, 0)] [8] hs eQ (by kernel_rfl) (by kernel_rfl) (by kernel_rfl) (by kernel_rfl) (by kernel_rfl) ?_)) | (refine cX (fun W hs => ?_)) | (apply fE; case' hos => (simp only [List.map_cons, List.map_nil, List.getElem?_toArray, List.getElem?_cons_succ, List.getElem?_cons_zero]; repeat' (first | exact gI | apply fD))))
    obtain ⟨qn, hqn⟩ : ∃ qn : QN, qn = (true, ((a9, n3, n3), t), (z0, []), (z0, [])) := ⟨_, rfl⟩
    have hqnm : iX qn = newN t := by rw [hqn]
    have hqno : okN qn := by rw [hqn]; exact ⟨⟨htl.symm, hto⟩, ⟨rfl, fun x h => by cases h⟩, ⟨rfl, fun x h => by cases h⟩⟩
    have hs := (hs.nilRow 93 2).nilRow 93 2
    have hs := St.packN (q := (true, ((a9, n3, n3), t), (z0, []), (z0, []))) (L := [OwnN qs, _, _, _, _]) (hs.sel [2, 0, 1, 5, 4, 6, 7, 11] (by decide))
    rw [← hqn] at hs
    have hs := St.pushN hs
    have hmp : (qs ++ [qn]).map rawN = qs.map rawN ++ [rNew (a9, n3, n3)] := by rw [List.map_append, hqn]; rfl
    rw [← hmp] at hs
    have hsn : setN N k (newN t) = N ++ [newN t] := by unfold setN; rw [if_neg (by omega)]
    have hents := vO hc hfz hce1 (by rw [hfk]; exact hpe1)
    rw [hfk] at hents
    refine aZ Tryz.func99 rfl (.agg' hs rfl rfl (.tmp rfl (.tmp rfl .nil))) (.inr ⟨rfl, some ⟨b, o, none⟩, n + 1, c6, a2', es1.length, es1.length, rfl, Nat.le_refl _, qs ++ [qn], es1, rs', ⟨by rw [List.map_append, hqm, hsn, ← hqnm]; rfl, fun u hu => ?_⟩, ⟨hce1, hents⟩, ⟨by rw [hsn, List.length_append, hl]; rfl, rfl, hle1⟩, (hs.sel [1, 0, 2, 3] (by decide)).out (List.Sublist.refl _)⟩)
    rcases List.mem_append.1 hu with e | e
    · exact hqo u e
    · rw [List.mem_singleton.1 e]; exact hqno
  · have hgt : ¬ (k : Int) + 1 > n := by omega
    have hbnd : 0 ≤ (k : Int) + 1 - 1 ∧ (k : Int) + 1 - 1 < n := by omega
    repeat' (first | ((apply aV 105; refine JL_o (by exact aB fI rfl (is_r _ a a2 n c n2 c2 N ((k : Int) + 1) (h.st hs) hki)) rfl rfl ?_; rintro _ _ ⟨rfl, hE⟩; rw [hgo]; have hs := hs.ext hE; (try simp only [zcc] at hs))) | ((apply aV 132; refine JL_o (by exact aB en132 rfl (yJ _ a2 n2 c2 E a3 n3 c3 t ((k : Int) + 1) (hE0.st hs) hn2 (ht.st hs) hki hput)) rfl rfl ?_; rintro _ _ ⟨es1, rs1, a4, ⟨hce1, hpe1, hle1⟩, rfl, hf⟩; have hs := hs.fresh hf; (try simp only [zcc] at hs))) | ((apply aV 107; refine JL_o (by exact aB zU rfl (tE _ a a4 n c es1.length es1.length N es1 (h.st hs) (dI hs zmm zmm) (by omega) hle1 hz (kN hce1))) rfl rfl ?_; rintro _ _ ⟨qs, rs', a', a2', ⟨hqm, hqo⟩, rfl, hf⟩; have hs := hs.fresh hf; simp only [zcc] at hs; obtain ⟨b, o, rfl⟩ := (hs.row a' n n).some (by omega); have hql : qs.length = n := (by have := congrArg List.length hqm; rw [List.length_map] at this; omega); have hset : ∀ u : RNd, bY (encL cNd (qs.map rawN)) (((k : Int) + 1 - 1).toNat * 4) (cNd u) = encL cNd ((qs.map rawN).set k u) := (fun u => by rw [ik]; exact rU _ k u (by rw [List.length_map]; omega)); (try simp only [zcc] at hs))) | ((apply ax_c; apply eH 114; exact rfl; (intro W X hN hs; exact aB zT rfl (lU _ a3 n3 c3 t (ht.st hs) (by omega))); (rintro _ _ _ _ ⟨a9, rfl, hf⟩; first | exact hE | exact Fresh.ext hf); rintro W X _ _ hN hs ⟨a9, rfl, hf⟩; have hs := hs.fresh hf; (try simp only [zcc] at hs); refine JX.at hs ?_)) | ((apply bI; refine JL_u (by apply bB; exact dQ (b := b) (o := o) (off := ((k : Int) + 1 - 1).toNat * 4) (n := n) (c := n) (vs := cNd (rNew (a9, n3, n3))) hs rfl rfl rfl rfl (by simp [Value.oneCell']) (by show ((k : Int) + 1 - 1).toNat * 4 + 4 ≤ n * 4; omega)) rfl ?_; rintro _ _ ⟨hs, hF⟩; rw [hset] at hs)) | (apply aU) | ((first | (apply aK) | (apply JX_f; exact rfl; intro W X hs)); (first | (apply aX; first | exact aW hs rfl rfl aA | exact aI hs rfl aA) | (apply aQ; exact aJ rfl aA) | (apply aF; exact aC rfl aA) | (apply aS; exact aN rfl rfl aA) | (apply eW; exact dS rfl rfl (by omega) aA) | (apply aL; exact aM rfl rfl rfl aA) | (apply bO; exact bZ rfl aA) | (apply cD; exact bU rfl rfl aA) | (apply aP; exact aO rfl rfl (by omega) (by omega) aA) | (apply dE; exact cW rfl (by (simp only [bld, dB, bY, Value.cells, List.take_succ_cons, List.take_zero, List.drop_succ_cons, List.drop_zero, List.cons_append, List.nil_append, List.length_cons, List.length_nil, List.getElem?_cons_zero, List.getElem?_cons_succ, Option.map_some, List.append_nil, Nat.reduceAdd, Nat.reduceMul, Nat.zero_add, Nat.reduceLeDiff, and_self, if_true, List.toList_toArray, Nat.le_refl, Nat.zero_mul, Nat.one_mul]; first | done | rfl)) aA)); first | (exact rfl; exact rfl) | exact rfl) | (apply bC) | (apply aG) | (apply cK; refine cY rfl ?_) | (apply bK) | (apply aH (t := 10); refine JL_o (by apply bA; exact aR hs) rfl rfl ?_; rintro _ _ ⟨b10, rfl, hb10, hs, hE⟩) | (apply bI; refine JL_u (by apply bB; exact aY hs rfl rfl rfl) rfl ?_; rintro _ _ ⟨hs, hF⟩) | (apply aT; first | refine bL rfl ob ?_ | refine bM rfl gb ?_) | (apply cZ; (refine dD (id := 16) [0, 1, 0, 4, 0, 16, 48, 127, 255] [(0, 0), (1, 0), (2, 0), (3, 0), (4, 0), (5, 1), (6, 0), (7, 0)] [8] hs eQ (by kernel_rfl) (by kernel_rfl) (by kernel_rfl) (by kernel_rfl) (by kernel_rfl) ?_)) | (refine cX (fun W hs => ?_)) | (apply fE; case' hos => (simp only [List.map_cons, List.map_nil, List.getElem?_toArray, List.getElem?_cons_succ, List.getElem?_cons_zero]; repeat' (first | exact gI | apply fD))))
    obtain ⟨qn, hqn⟩ : ∃ qn : QN, qn = (true, ((a9, n3, n3), t), (z0, []), (z0, [])) := ⟨_, rfl⟩
    have hqnm : iX qn = newN t := by rw [hqn]
    have hqno : okN qn := by rw [hqn]; exact ⟨⟨htl.symm, hto⟩, ⟨rfl, fun x h => by cases h⟩, ⟨rfl, fun x h => by cases h⟩⟩
    have hs := (hs.nilRow 93 2).nilRow 93 2
    have hs := St.packN (q := (true, ((a9, n3, n3), t), (z0, []), (z0, []))) (L := [OwnN qs, _, _, _, _]) (hs.sel [2, 0, 1, 4, 3, 5, 6, 10] (by decide))
    rw [← hqn] at hs
    obtain ⟨q0, hq0⟩ : ∃ q0, qs[k]? = some q0 := ⟨_, List.getElem?_eq_getElem (by omega)⟩
    have hs := St.replN hq0 hs
    have hmp : (qs.set k qn).map rawN = (qs.map rawN).set k (rNew (a9, n3, n3)) := by rw [List.map_set, hqn]
    rw [← hmp] at hs
    have hsn : setN N k (newN t) = N.set k (newN t) := by unfold setN; rw [if_pos (by omega)]
    have hents := vO hc hfz hce1 (by rw [hfk]; exact hpe1)
    rw [hfk] at hents
    refine aZ Tryz.func99 rfl (.agg' hs rfl rfl (.tmp rfl (.tmp rfl .nil))) (.inr ⟨rfl, some ⟨b, o, none⟩, n, n, a2', es1.length, es1.length, rfl, by omega, qs.set k qn, es1, rs', ⟨by rw [List.map_set, hqm, hsn, ← hqnm], fun u hu => ?_⟩, ⟨hce1, hents⟩, ⟨by rw [hsn, List.length_set, hl], rfl, hle1⟩, (hs.sel [1, 0, 2, 3] (by decide)).out (List.Sublist.refl _)⟩)
    rcases List.mem_or_eq_of_mem_set hu with e | e
    · exact hqo u e
    · rw [e]; exact hqno
end Go.Eng
end
section
namespace Go.Eng
open Go.Proofs
set_option linter.unusedSimpArgs false
set_option linter.unusedVariables false
theorem szN_of {N : List NM} {t : List Int} (hz : szN N) (ht : t.length ≤ 1000000) : szN (ofL N t) := by
  unfold ofL
  by_cases h : ofC N t = 0
  · rw [if_pos h]
    by_cases h2 : gY N t ≠ 0
    · rw [if_pos h2]; exact hz
    · rw [if_neg h2]
      intro x hx
      obtain ⟨i, hi⟩ := List.mem_iff_getElem?.1 hx
      rw [jV (gH N)] at hi
      by_cases e : i = fO N
      · rw [if_pos e] at hi; cases hi; exact ⟨ht, by show 0 ≤ 1000000; omega, by show 0 ≤ 1000000; omega⟩
      · rw [if_neg e] at hi; exact hz x (List.mem_of_getElem? hi)
  · rw [if_neg h]; intro x hx; cases hx
theorem vT {N : List NM} {lo hi : Nat} {id : Int} {a b : NM} (ha : N[hi]? = some a) (hb : N[lo]? = some b) : fW N lo hi id = (N.set hi (a.1, a.2.1, a.2.2.1, wiS a.2.2.2 (id, (lo : Int) + 1))).set lo (b.1, b.2.1, wiS b.2.2.1 (id, (hi : Int) + 1), b.2.2.2) := by
  unfold fW
  rw [dR ha, dR hb]
theorem okT_of {id : Int} {k : Nat} (h : okId id) (hk : k ≤ 1000000) : okT (id, (k : Int) + 1) := ⟨h, by show inK .i64 ((k : Int) + 1); unfold inK; simp only [IntKind.min, IntKind.max, IntKind.bits, IntKind.signed]; omega⟩
theorem wiS_ok {l : List ST} {s : ST} (h : ∀ x ∈ l, okT x) (hs : okT s) : ∀ x ∈ wiS l s, okT x := fun x hx => by
  rcases wiS_mem.1 hx with e | e
  · rw [e]; exact hs
  · exact h x e.1
attribute [local irreducible] Hold J JL JD JX JXat OpR OpG Ret RetV Is Blk Row
set_option maxRecDepth 100000
set_option maxHeartbeats 2000000
end Go.Eng
end
section
namespace Go.Eng
open Go.Proofs
set_option linter.unusedSimpArgs false
set_option linter.unusedVariables false
def goE (N : List NM) (E : List Ent) (n id : Int) (plus : Bool) : Int := if eG N E then goC N n id plus else 220
theorem jX {qs : List QN} {k : Nat} {q : QN} (h : ∀ u ∈ qs, okN u) (hq : okN q) : ∀ u ∈ qs.set k q, okN u := fun u hu => by
  rcases List.mem_or_eq_of_mem_set hu with e | e
  · exact h u e
  · rw [e]; exact hq
theorem sY {qs : List QN} {N : List NM} (h : qs.map iX = N) {k : Nat} {x : NM} (hx : N[k]? = some x) : ∃ q, qs[k]? = some q ∧ iX q = x := by
  rw [← h, List.getElem?_map] at hx
  cases hq : qs[k]? with
  | none => rw [hq] at hx; cases hx
  | some q => rw [hq] at hx; exact ⟨q, rfl, Option.some.inj hx⟩
theorem lJ {w0 w : World} {F : Nat → Prop} {L A : List HP} {b : Nat} {o : Obj} (hs : St w0 F w (A ++ L)) (hb : Blk b o ∈ L) : ∀ k, (Star A).foot k → k ≠ b := fun k ⟨c, hc, hk⟩ e => by
  subst e
  exact (List.pairwise_append.1 hs.sep).2.2 c hc _ hb k hk rfl
theorem perm5a {α : Type} (a b c d e : α) (L : List α) : (a :: b :: c :: d :: e :: L).Perm (e :: b :: a :: c :: d :: L) := by
  classical
  rw [List.perm_iff_count]; intro x; simp only [List.count_cons]; omega
theorem perm5b {α : Type} (a b c d e : α) (L : List α) : (a :: b :: c :: d :: e :: L).Perm (e :: c :: a :: b :: d :: L) := by
  classical
  rw [List.perm_iff_count]; intro x; simp only [List.count_cons]; omega
theorem perm5c {α : Type} (a b c d e : α) (L : List α) : (a :: b :: c :: d :: e :: L).Perm (c :: b :: d :: e :: a :: L) := by
  classical
  rw [List.perm_iff_count]; intro x; simp only [List.count_cons]; omega
theorem perm5d {α : Type} (a b c d e : α) (L : List α) : (a :: b :: c :: d :: e :: L).Perm (c :: d :: b :: e :: a :: L) := by
  classical
  rw [List.perm_iff_count]; intro x; simp only [List.count_cons]; omega
theorem yV (N : List NM) (t : List Int) : (ofL N t).length ≤ N.length + 1 := by
  unfold ofL
  by_cases h : ofC N t = 0
  · rw [if_pos h]
    by_cases h2 : gY N t ≠ 0
    · rw [if_pos h2]; omega
    · rw [if_neg h2, rN (gH N)]
      have := gH N
      split <;> omega
  · rw [if_neg h]; simp
theorem iT {w : World} {b : Nat} {o : Obj} (h : (Blk b o).holds w) : w.heap[b]? = some o := h
theorem rI {N : List NM} (g : GR N) {i : Nat} {x : NM} {plus : Bool} {s : ST} (hs : mR N i x plus s) {q : Nat} {y : NM} {id : Int} (hy : N[q]? = some y) (hu : y.1 = true) (ht : y.2.1 = gX plus x.2.1 id) (e : s.1 = id) : s = (id, (q : Int) + 1) := by
  obtain ⟨_, j, y2, e1, e2, e3, e4, _⟩ := hs
  have : j = q := g.uniq j q y2 y e2 hy e3 hu (by rw [e4, ht, e])
  rw [this] at e1
  exact Prod.ext e e1
theorem rR {q : QN} {x : NM} (h : iX q = x) : q.1 = x.1 ∧ q.2.1.2 = x.2.1 ∧ q.2.2.1.2 = x.2.2.1 ∧ q.2.2.2.2 = x.2.2.2 := by
  subst h; exact ⟨rfl, rfl, rfl, rfl⟩
attribute [local irreducible] Hold J JL JD JX JXat OpR OpG Ret RetV Is Blk Row
set_option maxRecDepth 100000
set_option maxHeartbeats 2000000
theorem zL (w : World) (a a2 a3 : Option Addr) (n c n2 c2 n3 c3 : Nat) (N : List NM) (E : List Ent) (t : List Int) (h : Sl jA All w a n c N) (hE0 : Sl dEnt All w a2 n2 c2 E) (ht : Sl dId All w a3 n3 c3 t) (hn : n ≤ 900000) (hn2 : n2 ≤ 1048576) (hz : szN N) (hc : eG N E = true) (ho : ofC N t ≠ 0) :
    Ret Tryz.prog 99 #[.agg #[.slice a n c, .slice a2 n2 c2], .slice a3 n3 c3] w fun v w' => v = .tuple #[.agg #[.slice none 0 0, .slice none 0 0], .int .i64 0, .int .i64 (ofC N t)] ∧ Ext w w' :=
  (gof_r w a a2 a3 n c n2 c2 n3 c3 N E t h hE0 ht hn hn2 hz hc).mono fun v w' r => by
    rcases r with ⟨_, r⟩ | ⟨e, _⟩
    · exact r
    · exact absurd e ho
theorem gof_ok (w : World) (a a2 a3 : Option Addr) (n c n2 c2 n3 c3 : Nat) (N : List NM) (E : List Ent) (t : List Int) (h : Sl jA All w a n c N) (hE0 : Sl dEnt All w a2 n2 c2 E) (ht : Sl dId All w a3 n3 c3 t) (hn : n ≤ 900000) (hn2 : n2 ≤ 1048576) (hz : szN N) (hc : eG N E = true) (ho : ofC N t = 0) :
    Ret Tryz.prog 99 #[.agg #[.slice a n c, .slice a2 n2 c2], .slice a3 n3 c3] w fun v w' => ∃ a' m' c' a2' m2 c2', v = .tuple #[.agg #[.slice a' m' c', .slice a2' m2 c2'], .int .i64 (ofn N t), .int .i64 0] ∧ m' ≤ n + 1 ∧ GOut w w' (ofL N t) a' m' c' a2' m2 c2' :=
  (gof_r w a a2 a3 n c n2 c2 n3 c3 N E t h hE0 ht hn hn2 hz hc).mono fun v w' r => by
    rcases r with ⟨e, _⟩ | ⟨_, r⟩
    · exact absurd ho e
    · exact r
theorem zH (w0 : World) (F : Nat → Prop) (w : World) (L : List HP) (b o n c k p : Nat) (qs : List QN) (q : QN) (x : NM) (id to : Int) (bid : Nat) (hk : k = p) (hs : St w0 F w (OwnN qs :: TabN (some ⟨b, o, none⟩) n c (qs.map rawN) :: L)) (hbl : Blk bid (.cells #[.int .u64 id] 29 (0, 0)) ∈ L)
    (hq : qs[p]? = some q) (hqm : iX q = x) (hqo : okN q) (hid : okId id) (hto : inK .i64 to) (hrise : kL x.2.2.1) (hsame : ∀ s ∈ x.2.2.1, s.1 = id → s = (id, to)) (hln : x.2.2.1.length ≤ 1000000) :
    Ret Tryz.prog 170 #[.pointer (some ⟨b, o + k * 4 + 2, none⟩), .int .i64 to, ptr bid] w fun _ w' => ∃ qn : QN, (iX qn = (x.1, x.2.1, wiS x.2.2.1 (id, to), x.2.2.2) ∧ okN qn) ∧ St w0 F w' (OwnN (qs.set p qn) :: TabN (some ⟨b, o, none⟩) n c ((qs.set p qn).map rawN) :: L) := by
  subst hk
  obtain ⟨hm1, hm2, hm3, hm4⟩ := rR hqm
  have hp := (List.getElem?_eq_some_iff.1 hq).1
  have hlt : (encL cNd (qs.map rawN)).length = n * 4 := (hs.row (some ⟨b, o, none⟩) n c).len
  have hll : qs.length = n := by rw [rV, List.length_map] at hlt; omega
  have hb : w.heap[bid]? = some (.cells #[.int .u64 id] 29 (0, 0)) := iT (hs.all _ (List.mem_cons_of_mem _ (List.mem_cons_of_mem _ hbl)))
  have h1 := St.unpackN (St.takeN hq hs)
  have h2 : St w0 F w ([TabN (some ⟨b, o, none⟩) n c (qs.map rawN), row2 q] ++ ([row1 q, row3 q, OwnN (qs.take k ++ qs.drop (k + 1))] ++ L)) := h1.perm (perm5a _ _ _ _ _ _)
  obtain ⟨⟨o1, o2⟩, ⟨o3, o4⟩, ⟨o5, o6⟩⟩ := hqo
  have hraw : (qs.map rawN)[k]? = some (rawN q) := by rw [List.getElem?_map, hq]; rfl
  have hcell : (encL cNd (qs.map rawN))[k * 4 + 2]? = some (.slice q.2.2.1.1.1 q.2.2.1.1.2.1 q.2.2.1.1.2.2) := by
    rw [show (encL cNd (qs.map rawN))[k * 4 + 2]? = (cNd (rawN q))[2]? from fM (d := dRNd) (qs.map rawN) k 2 (rawN q) hraw (by show 2 < 4; omega)]; rfl
  have hc := gput_r w b o n c (k * 4 + 2) (encL cNd (qs.map rawN)) q.2.2.1.1.1 q.2.2.1.1.2.1 q.2.2.1.1.2.2 q.2.2.1.2 id to bid (St.held (A := [_, _]) h2) hcell (by omega) o3.symm o4 hid hto (by rw [hm3]; exact hrise) (by rw [hm3]; exact hsame) (by rw [o3, hm3]; exact hln) hb (lJ h2 (List.mem_append_right _ hbl))
  refine (show Ret Tryz.prog 170 #[.pointer (some ⟨b, o + k * 4 + 2, none⟩), .int .i64 to, ptr bid] w _ from hc).mono ?_
  rintro _ w' ⟨ra', rc', ht⟩
  have h3 := St.take (A := [_, _]) (A' := [_, _]) h2 ht
  rw [hm3] at h3
  refine ⟨(q.1, q.2.1, ((ra', (wiS x.2.2.1 (id, to)).length, rc'), wiS x.2.2.1 (id, to)), q.2.2.2), ⟨?_, ?_⟩, ?_⟩
  · exact nm_eq.2 ⟨hm1, hm2, rfl, hm4⟩
  · exact ⟨⟨o1, o2⟩, ⟨rfl, wiS_ok (hm3 ▸ o4) ⟨hid, hto⟩⟩, ⟨o5, o6⟩⟩
  · have h4 : St w0 F w' (row1 q :: RowT ra' (wiS x.2.2.1 (id, to)).length rc' (wiS x.2.2.1 (id, to)) :: row3 q :: OwnN (qs.take k ++ qs.drop (k + 1)) :: Row (some ⟨b, o, none⟩) n c 79 4 (bY (encL cNd (qs.map rawN)) (k * 4 + 2) [.slice ra' (wiS x.2.2.1 (id, to)).length rc']) :: L) := h3.perm (perm5c _ _ _ _ _ _)
    have h5 := St.putN (qn := (q.1, q.2.1, ((ra', (wiS x.2.2.1 (id, to)).length, rc'), wiS x.2.2.1 (id, to)), q.2.2.2)) hp (St.packN (q := (q.1, q.2.1, ((ra', (wiS x.2.2.1 (id, to)).length, rc'), wiS x.2.2.1 (id, to)), q.2.2.2)) h4)
    rw [pO (qs.map rawN) k (rawN q) ra' _ rc' hraw] at h5
    rw [List.map_set]
    exact h5
theorem zI (w0 : World) (F : Nat → Prop) (w : World) (L : List HP) (b o n c k p : Nat) (qs : List QN) (q : QN) (x : NM) (id to : Int) (bid : Nat) (hk : k = p) (hs : St w0 F w (OwnN qs :: TabN (some ⟨b, o, none⟩) n c (qs.map rawN) :: L)) (hbl : Blk bid (.cells #[.int .u64 id] 29 (0, 0)) ∈ L)
    (hq : qs[p]? = some q) (hqm : iX q = x) (hqo : okN q) (hid : okId id) (hto : inK .i64 to) (hrise : kL x.2.2.2) (hsame : ∀ s ∈ x.2.2.2, s.1 = id → s = (id, to)) (hln : x.2.2.2.length ≤ 1000000) :
    Ret Tryz.prog 170 #[.pointer (some ⟨b, o + k * 4 + 3, none⟩), .int .i64 to, ptr bid] w fun _ w' => ∃ qn : QN, (iX qn = (x.1, x.2.1, x.2.2.1, wiS x.2.2.2 (id, to)) ∧ okN qn) ∧ St w0 F w' (OwnN (qs.set p qn) :: TabN (some ⟨b, o, none⟩) n c ((qs.set p qn).map rawN) :: L) := by
  subst hk
  obtain ⟨hm1, hm2, hm3, hm4⟩ := rR hqm
  have hp := (List.getElem?_eq_some_iff.1 hq).1
  have hlt : (encL cNd (qs.map rawN)).length = n * 4 := (hs.row (some ⟨b, o, none⟩) n c).len
  have hll : qs.length = n := by rw [rV, List.length_map] at hlt; omega
  have hb : w.heap[bid]? = some (.cells #[.int .u64 id] 29 (0, 0)) := iT (hs.all _ (List.mem_cons_of_mem _ (List.mem_cons_of_mem _ hbl)))
  have h1 := St.unpackN (St.takeN hq hs)
  have h2 : St w0 F w ([TabN (some ⟨b, o, none⟩) n c (qs.map rawN), row3 q] ++ ([row1 q, row2 q, OwnN (qs.take k ++ qs.drop (k + 1))] ++ L)) := h1.perm (perm5b _ _ _ _ _ _)
  obtain ⟨⟨o1, o2⟩, ⟨o3, o4⟩, ⟨o5, o6⟩⟩ := hqo
  have hraw : (qs.map rawN)[k]? = some (rawN q) := by rw [List.getElem?_map, hq]; rfl
  have hcell : (encL cNd (qs.map rawN))[k * 4 + 3]? = some (.slice q.2.2.2.1.1 q.2.2.2.1.2.1 q.2.2.2.1.2.2) := by
    rw [show (encL cNd (qs.map rawN))[k * 4 + 3]? = (cNd (rawN q))[3]? from fM (d := dRNd) (qs.map rawN) k 3 (rawN q) hraw (by show 3 < 4; omega)]; rfl
  have hc := gput_r w b o n c (k * 4 + 3) (encL cNd (qs.map rawN)) q.2.2.2.1.1 q.2.2.2.1.2.1 q.2.2.2.1.2.2 q.2.2.2.2 id to bid (St.held (A := [_, _]) h2) hcell (by omega) o5.symm o6 hid hto (by rw [hm4]; exact hrise) (by rw [hm4]; exact hsame) (by rw [o5, hm4]; exact hln) hb (lJ h2 (List.mem_append_right _ hbl))
  refine (show Ret Tryz.prog 170 #[.pointer (some ⟨b, o + k * 4 + 3, none⟩), .int .i64 to, ptr bid] w _ from hc).mono ?_
  rintro _ w' ⟨ra', rc', ht⟩
  have h3 := St.take (A := [_, _]) (A' := [_, _]) h2 ht
  rw [hm4] at h3
  refine ⟨(q.1, q.2.1, q.2.2.1, ((ra', (wiS x.2.2.2 (id, to)).length, rc'), wiS x.2.2.2 (id, to))), ⟨?_, ?_⟩, ?_⟩
  · exact nm_eq.2 ⟨hm1, hm2, hm3, rfl⟩
  · exact ⟨⟨o1, o2⟩, ⟨o3, o4⟩, ⟨rfl, wiS_ok (hm4 ▸ o6) ⟨hid, hto⟩⟩⟩
  · have h4 : St w0 F w' (row1 q :: row2 q :: RowT ra' (wiS x.2.2.2 (id, to)).length rc' (wiS x.2.2.2 (id, to)) :: OwnN (qs.take k ++ qs.drop (k + 1)) :: Row (some ⟨b, o, none⟩) n c 79 4 (bY (encL cNd (qs.map rawN)) (k * 4 + 3) [.slice ra' (wiS x.2.2.2 (id, to)).length rc']) :: L) := h3.perm (perm5d _ _ _ _ _ _)
    have h5 := St.putN (qn := (q.1, q.2.1, q.2.2.1, ((ra', (wiS x.2.2.2 (id, to)).length, rc'), wiS x.2.2.2 (id, to)))) hp (St.packN (q := (q.1, q.2.1, q.2.2.1, ((ra', (wiS x.2.2.2 (id, to)).length, rc'), wiS x.2.2.2 (id, to)))) h4)
    rw [pN (qs.map rawN) k (rawN q) ra' _ rc' hraw] at h5
    rw [List.map_set]
    exact h5
theorem zJ (w : World) (a a2 : Option Addr) (n c n2 c2 : Nat) (N : List NM) (E : List Ent) (X0 id : Int) (h : Sl jA All w a n c N) (hE0 : Sl dEnt All w a2 n2 c2 E) (hn : n ≤ 900000) (hn2 : n2 ≤ 1048576) (hz : szN N) (hx0 : inK .i64 X0) (hid : okId id) :
    Ret Tryz.prog 100 #[.agg #[.slice a n c, .slice a2 n2 c2], .int .i64 X0, .int .u64 id, .bool true, .func (.func 45) #[] #[]] w fun v w' =>
      (goE N E X0 id true ≠ 0 ∧ v = .tuple #[.agg #[.slice none 0 0, .slice none 0 0], .int .i64 0, .int .i64 (goE N E X0 id true)] ∧ Ext w w') ∨
      (goE N E X0 id true = 0 ∧ ∃ a' m' c' a2' m2 c2', v = .tuple #[.agg #[.slice a' m' c', .slice a2' m2 c2'], .int .i64 (gon N X0 id true), .int .i64 0] ∧ m' ≤ n + 1 ∧ GOut w w' (goL N X0 id true) a' m' c' a2' m2 c2') := by
  refine cJ (l := [_, _, _, _, _]) Tryz.func100 rfl Tryz.ntmps100 (by simp) ?_
  have hs := St.init w
  have hl := h.len
  have hl2 := hE0.len
  obtain ⟨rs, hr, hm⟩ := Sl.raw (D := mX) h
  cases hc : eG N E with
  | false =>
    have he := jZ hc
    have eE : goE N E X0 id true = 220 := by unfold goE; rw [hc]; rfl
    rw [eE]
    repeat' (first | ((apply aV 46; refine JL_o (by exact aB en46 rfl (dP _ a a2 n c n2 c2 N E (h.st hs) (hE0.st hs) hn2 hz)) rfl rfl ?_; rintro _ _ ⟨rfl, hE⟩; rw [he]; have hs := hs.ext hE; (try simp only [zcc] at hs))) | (apply aU) | ((apply aK); (first | (apply aX; first | exact aW hs rfl rfl aA | exact aI hs rfl aA) | (apply aQ; exact aJ rfl aA) | (apply aF; exact aC rfl aA) | (apply aL; exact aM rfl rfl rfl aA) | (apply dE; exact cW rfl (by (simp only [bld, dB, bY, Value.cells, List.take_succ_cons, List.take_zero, List.drop_succ_cons, List.drop_zero, List.cons_append, List.nil_append, List.length_cons, List.length_nil, List.getElem?_cons_zero, List.getElem?_cons_succ, Option.map_some, List.append_nil, Nat.reduceAdd, Nat.reduceMul, Nat.zero_add, Nat.reduceLeDiff, and_self, if_true, List.toList_toArray, Nat.le_refl, Nat.zero_mul, Nat.one_mul]; first | done | rfl)) aA)); first | (exact rfl; exact rfl) | exact rfl) | (apply bC) | (apply aG) | (apply aH (t := 5); refine JL_o (by apply cA; exact bE hs rfl) rfl rfl ?_; rintro _ _ ⟨b5, rfl, hb5, hs, hE⟩) | (apply aH (t := 7); refine JL_o (by apply cA; exact bE hs rfl) rfl rfl ?_; rintro _ _ ⟨b7, rfl, hb7, hs, hE⟩) | (apply aH (t := 10); refine JL_o (by apply bA; exact aR hs) rfl rfl ?_; rintro _ _ ⟨b10, rfl, hb10, hs, hE⟩) | (apply bI; refine JL_u (by apply bB; exact aY hs rfl rfl rfl) rfl ?_; rintro _ _ ⟨hs, hF⟩) | (apply aT; refine bH rfl ob ?_))
    refine aZ Tryz.func100 rfl (.agg' hs rfl rfl (.tmp rfl (.tmp rfl .nil))) (.inl ⟨by decide, rfl, hs.frm.ext⟩)
  | true =>
  have he := hM hc
  obtain ⟨g, hcE, hA⟩ := check_iff.1 hc
  have eE : goE N E X0 id true = goC N X0 id true := by unfold goE; rw [hc]; rfl
  rw [eE]
  cases hi : isM N X0 with
  | false =>
    have e1 : goC N X0 id true = 2 := by unfold goC; rw [hi]; rfl
    rw [e1]
    repeat' (first | ((apply aV 46; refine JL_o (by exact aB en46 rfl (dP _ a a2 n c n2 c2 N E (h.st hs) (hE0.st hs) hn2 hz)) rfl rfl ?_; rintro _ _ ⟨rfl, hE⟩; rw [he]; have hs := hs.ext hE; (try simp only [zcc] at hs))) | ((apply aV 105; refine JL_o (by exact aB fI rfl (is_r _ a a2 n c n2 c2 N X0 (h.st hs) hx0)) rfl rfl ?_; rintro _ _ ⟨rfl, hE⟩; rw [hi]; have hs := hs.ext hE; (try simp only [zcc] at hs))) | (apply aU) | ((apply aK); (first | (apply aX; first | exact aW hs rfl rfl aA | exact aI hs rfl aA) | (apply aQ; exact aJ rfl aA) | (apply aF; exact aC rfl aA) | (apply aL; exact aM rfl rfl rfl aA) | (apply cF; exact cG rfl aA) | (apply dE; exact cW rfl (by (simp only [bld, dB, bY, Value.cells, List.take_succ_cons, List.take_zero, List.drop_succ_cons, List.drop_zero, List.cons_append, List.nil_append, List.length_cons, List.length_nil, List.getElem?_cons_zero, List.getElem?_cons_succ, Option.map_some, List.append_nil, Nat.reduceAdd, Nat.reduceMul, Nat.zero_add, Nat.reduceLeDiff, and_self, if_true, List.toList_toArray, Nat.le_refl, Nat.zero_mul, Nat.one_mul]; first | done | rfl)) aA)); first | (exact rfl; exact rfl) | exact rfl) | (apply bC) | (apply aG) | (apply bK) | (apply aH (t := 5); refine JL_o (by apply cA; exact bE hs rfl) rfl rfl ?_; rintro _ _ ⟨b5, rfl, hb5, hs, hE⟩) | (apply aH (t := 7); refine JL_o (by apply cA; exact bE hs rfl) rfl rfl ?_; rintro _ _ ⟨b7, rfl, hb7, hs, hE⟩) | (apply aH (t := 10); refine JL_o (by apply bA; exact aR hs) rfl rfl ?_; rintro _ _ ⟨b10, rfl, hb10, hs, hE⟩) | (apply bI; refine JL_u (by apply bB; exact aY hs rfl rfl rfl) rfl ?_; rintro _ _ ⟨hs, hF⟩) | (apply aT; first | refine bL rfl ob ?_ | refine bQ rfl gb ?_))
    refine aZ Tryz.func100 rfl (.agg' hs rfl rfl (.tmp rfl (.tmp rfl .nil))) (.inl ⟨by decide, rfl, hs.frm.ext⟩)
  | true =>
  obtain ⟨p, x, rfl, hxp, hxu⟩ := isM_true.1 hi
  have hpl := (List.getElem?_eq_some_iff.1 hxp).1
  have hnd : dT N ((p : Int) + 1) = x := dM hxp
  obtain ⟨r0, hr0, hrel0⟩ := hm.get hxp
  obtain ⟨u1, mT, u3, u4⟩ := sX hrel0
  have mTl := mT.len
  have hTy := g.typ p x hxp hxu
  obtain ⟨hT12, hTr, _⟩ := typeB_iff.1 hTy
  have hr0' : rs[((p : Int) + 1 - 1).toNat]? = some r0 := by rw [show ((p : Int) + 1 - 1).toNat = p by omega]; exact hr0
  have hbx : 0 ≤ (p : Int) + 1 - 1 ∧ (p : Int) + 1 - 1 < n := by omega
  obtain ⟨b0, o0, rfl⟩ := hr.sl.addr (by omega)
  have hgc : goC N ((p : Int) + 1) id true = (if mayM id then (if id ∈ x.2.1 then 0 else if x.2.1.length = 12 then 6 else ofC N (wiT x.2.1 id)) else 2) := by unfold goC; rw [hi, if_pos rfl, hnd]; rfl
  have hst : mS N ((p : Int) + 1) id true = decide (id ∈ x.2.1) := by unfold mS; rw [hnd]; rfl
  cases hmay : mayM id with
  | false =>
    rw [hmay, if_neg (by decide)] at hgc
    have hwC : jC x.2.1 id = 2 := by unfold jC; rw [if_pos hTy, if_neg (by rw [hmay]; decide)]
    have hwL : iB x.2.1 id = [] := by unfold iB; rw [hwC]; rfl
    rw [hgc]
    repeat' (first | ((apply aV 46; refine JL_o (by exact aB en46 rfl (dP _ (some ⟨b0, o0, none⟩) a2 n c n2 c2 N E (h.st hs) (hE0.st hs) hn2 hz)) rfl rfl ?_; rintro _ _ ⟨rfl, hE⟩; rw [he]; have hs := hs.ext hE; (try simp only [zcc] at hs))) | ((apply aV 105; refine JL_o (by exact aB fI rfl (is_r _ (some ⟨b0, o0, none⟩) a2 n c n2 c2 N ((p : Int) + 1) (h.st hs) hx0)) rfl rfl ?_; rintro _ _ ⟨rfl, hE⟩; rw [hi]; have hs := hs.ext hE; (try simp only [zcc] at hs))) | ((apply aH (t := 43); refine JL_o (cE rfl rfl (Ret.value (cap := #[]) en45 (iK _ r0.2.1.1 r0.2.1.2.1 r0.2.1.2.2 x.2.1 id (mT.st hs) hid))) rfl rfl ?_; rintro _ _ ⟨aw, rfl, hf⟩; rw [hwL] at hf; rw [hwC, hwL]; have hs := hs.fresh hf; (try simp only [zcc] at hs))) | (apply aU) | ((apply aK); (first | (apply aX; first | exact aW hs rfl rfl aA | exact aI hs rfl aA | exact cL (i := ((p : Int) + 1 - 1).toNat) (j := 1) (hr.st hs) hr0' rfl rfl rfl aA) | (apply aQ; exact aJ rfl aA) | (apply aF; exact aC rfl aA) | (apply aS; first | exact aN rfl rfl aA | exact bJ rfl rfl aA) | (apply eW; exact dS rfl rfl (by omega) aA) | (apply aL; exact aM rfl rfl rfl aA) | (apply cF; exact cG rfl aA) | (apply cD; exact bU rfl rfl aA) | (apply aP; exact aO rfl rfl (by omega) (by omega) aA) | (apply dE; exact cW rfl (by (simp only [bld, dB, bY, Value.cells, List.take_succ_cons, List.take_zero, List.drop_succ_cons, List.drop_zero, List.cons_append, List.nil_append, List.length_cons, List.length_nil, List.getElem?_cons_zero, List.getElem?_cons_succ, Option.map_some, List.append_nil, Nat.reduceAdd, Nat.reduceMul, Nat.zero_add, Nat.reduceLeDiff, and_self, if_true, List.toList_toArray, Nat.le_refl, Nat.zero_mul, Nat.one_mul]; first | done | rfl)) aA)); first | (exact rfl; exact rfl) | exact rfl) | (apply bC) | (apply aG) | (apply bK) | (apply aH (t := 5); refine JL_o (by apply cA; exact bE hs rfl) rfl rfl ?_; rintro _ _ ⟨b5, rfl, hb5, hs, hE⟩) | (apply aH (t := 7); refine JL_o (by apply cA; exact bE hs rfl) rfl rfl ?_; rintro _ _ ⟨b7, rfl, hb7, hs, hE⟩) | (apply aH (t := 10); refine JL_o (by apply bA; exact aR hs) rfl rfl ?_; rintro _ _ ⟨b10, rfl, hb10, hs, hE⟩) | (apply bI; refine JL_u (by apply bB; exact aY hs rfl rfl rfl) rfl ?_; rintro _ _ ⟨hs, hF⟩) | (apply aT; first | refine bH rfl ob ?_ | refine bL rfl ob ?_ | refine bM rfl gb ?_))
    refine aZ Tryz.func100 rfl (.agg' hs rfl rfl (.tmp rfl (.tmp rfl .nil))) (.inl ⟨by decide, rfl, hs.frm.ext⟩)
  | true =>
  rw [hmay, if_pos rfl] at hgc
  by_cases hin : id ∈ x.2.1
  · rw [if_pos hin] at hgc
    have hins : insT x.2.1 id = x.2.1 := by unfold insT; rw [if_pos hin]
    have hwC : jC x.2.1 id = 0 := by unfold jC; rw [if_pos hTy, if_pos hmay, hins, if_neg (by omega)]
    have hwL : iB x.2.1 id = x.2.1 := by unfold iB; rw [if_pos hwC, hins]
    have e2 : gon N ((p : Int) + 1) id true = (p : Int) + 1 := by unfold gon; rw [if_pos hgc, if_pos (by rw [hst, decide_eq_true hin])]
    have e3 : goL N ((p : Int) + 1) id true = N := by unfold goL; rw [if_pos hgc, if_pos (by rw [hst, decide_eq_true hin])]
    have heq : decide (x.2.1 = x.2.1) = true := decide_eq_true rfl
    rw [hgc, e2, e3]
    repeat' (first | ((apply aV 46; refine JL_o (by exact aB en46 rfl (dP _ (some ⟨b0, o0, none⟩) a2 n c n2 c2 N E (h.st hs) (hE0.st hs) hn2 hz)) rfl rfl ?_; rintro _ _ ⟨rfl, hE⟩; rw [he]; have hs := hs.ext hE; (try simp only [zcc] at hs))) | ((apply aV 105; refine JL_o (by exact aB fI rfl (is_r _ (some ⟨b0, o0, none⟩) a2 n c n2 c2 N ((p : Int) + 1) (h.st hs) hx0)) rfl rfl ?_; rintro _ _ ⟨rfl, hE⟩; rw [hi]; have hs := hs.ext hE; (try simp only [zcc] at hs))) | ((apply aH (t := 43); refine JL_o (cE rfl rfl (Ret.value (cap := #[]) en45 (iK _ r0.2.1.1 r0.2.1.2.1 r0.2.1.2.2 x.2.1 id (mT.st hs) hid))) rfl rfl ?_; rintro _ _ ⟨aw, rfl, hf⟩; rw [hwL] at hf; rw [hwC, hwL]; have hs := hs.fresh hf; (try simp only [zcc] at hs))) | ((apply aV 43; refine JL_o (by exact aB en43 rfl (cV _ aw r0.2.1.1 x.2.1.length x.2.1.length r0.2.1.2.1 r0.2.1.2.2 x.2.1 x.2.1 (slU hs zmm (nY mT)) (mT.st hs))) rfl rfl ?_; rintro _ _ ⟨rfl, hE⟩; rw [heq]; have hs := hs.ext hE; (try simp only [zcc] at hs))) | ((apply aV 107; refine JL_o (by exact aB zU rfl (tE _ (some ⟨b0, o0, none⟩) a2 n c n2 c2 N E (h.st hs) (hE0.st hs) (by omega) hn2 hz (kN hcE))) rfl rfl ?_; rintro _ _ ⟨qs, rs', a', a2', ⟨hqm, hqo⟩, rfl, hf⟩; have hs := hs.fresh hf; (try simp only [zcc] at hs))) | (apply aU) | ((apply aK); (first | (apply aX; first | exact aW hs rfl rfl aA | exact aI hs rfl aA | exact cL (i := ((p : Int) + 1 - 1).toNat) (j := 1) (hr.st hs) hr0' rfl rfl rfl aA) | (apply aQ; exact aJ rfl aA) | (apply aF; exact aC rfl aA) | (apply aS; first | exact aN rfl rfl aA | exact bJ rfl rfl aA) | (apply eW; exact dS rfl rfl (by omega) aA) | (apply aL; exact aM rfl rfl rfl aA) | (apply cF; exact cG rfl aA) | (apply cD; exact bU rfl rfl aA) | (apply aP; exact aO rfl rfl (by omega) (by omega) aA)); first | (exact rfl; exact rfl) | exact rfl) | (apply bC) | (apply aG) | (apply bK) | (apply aH (t := 5); refine JL_o (by apply cA; exact bE hs rfl) rfl rfl ?_; rintro _ _ ⟨b5, rfl, hb5, hs, hE⟩) | (apply aH (t := 7); refine JL_o (by apply cA; exact bE hs rfl) rfl rfl ?_; rintro _ _ ⟨b7, rfl, hb7, hs, hE⟩) | (apply aH (t := 10); refine JL_o (by apply bA; exact aR hs) rfl rfl ?_; rintro _ _ ⟨b10, rfl, hb10, hs, hE⟩) | (apply bI; refine JL_u (by apply bB; exact aY hs rfl rfl rfl) rfl ?_; rintro _ _ ⟨hs, hF⟩) | (apply aT; first | refine bL rfl ob ?_ | refine bQ rfl gb ?_ | refine bM rfl gb ?_))
    refine aZ Tryz.func100 rfl (.agg' hs rfl rfl (.tmp rfl (.tmp rfl .nil))) (.inr ⟨rfl, a', n, n, a2', n2, n2, rfl, by omega, qs, E, rs', ⟨hqm, hqo⟩, ⟨hcE, hA⟩, ⟨hl, hl2, hn2⟩, hs.out (by simp)⟩)
  rw [if_neg hin] at hgc
  by_cases h12 : x.2.1.length = 12
  · rw [if_pos h12] at hgc
    have hwC : jC x.2.1 id = 6 := by unfold jC; rw [if_pos hTy, if_pos hmay, if_pos (by rw [pI hTr, nL hin]; omega)]
    have hwL : iB x.2.1 id = [] := by unfold iB; rw [hwC]; rfl
    rw [hgc]
    repeat' (first | ((apply aV 46; refine JL_o (by exact aB en46 rfl (dP _ (some ⟨b0, o0, none⟩) a2 n c n2 c2 N E (h.st hs) (hE0.st hs) hn2 hz)) rfl rfl ?_; rintro _ _ ⟨rfl, hE⟩; rw [he]; have hs := hs.ext hE; (try simp only [zcc] at hs))) | ((apply aV 105; refine JL_o (by exact aB fI rfl (is_r _ (some ⟨b0, o0, none⟩) a2 n c n2 c2 N ((p : Int) + 1) (h.st hs) hx0)) rfl rfl ?_; rintro _ _ ⟨rfl, hE⟩; rw [hi]; have hs := hs.ext hE; (try simp only [zcc] at hs))) | ((apply aH (t := 43); refine JL_o (cE rfl rfl (Ret.value (cap := #[]) en45 (iK _ r0.2.1.1 r0.2.1.2.1 r0.2.1.2.2 x.2.1 id (mT.st hs) hid))) rfl rfl ?_; rintro _ _ ⟨aw, rfl, hf⟩; rw [hwL] at hf; rw [hwC, hwL]; have hs := hs.fresh hf; (try simp only [zcc] at hs))) | (apply aU) | ((apply aK); (first | (apply aX; first | exact aW hs rfl rfl aA | exact aI hs rfl aA | exact cL (i := ((p : Int) + 1 - 1).toNat) (j := 1) (hr.st hs) hr0' rfl rfl rfl aA) | (apply aQ; exact aJ rfl aA) | (apply aF; exact aC rfl aA) | (apply aS; first | exact aN rfl rfl aA | exact bJ rfl rfl aA) | (apply eW; exact dS rfl rfl (by omega) aA) | (apply aL; exact aM rfl rfl rfl aA) | (apply cF; exact cG rfl aA) | (apply cD; exact bU rfl rfl aA) | (apply aP; exact aO rfl rfl (by omega) (by omega) aA) | (apply dE; exact cW rfl (by (simp only [bld, dB, bY, Value.cells, List.take_succ_cons, List.take_zero, List.drop_succ_cons, List.drop_zero, List.cons_append, List.nil_append, List.length_cons, List.length_nil, List.getElem?_cons_zero, List.getElem?_cons_succ, Option.map_some, List.append_nil, Nat.reduceAdd, Nat.reduceMul, Nat.zero_add, Nat.reduceLeDiff, and_self, if_true, List.toList_toArray, Nat.le_refl, Nat.zero_mul, Nat.one_mul]; first | done | rfl)) aA)); first | (exact rfl; exact rfl) | exact rfl) | (apply bC) | (apply aG) | (apply bK) | (apply aH (t := 5); refine JL_o (by apply cA; exact bE hs rfl) rfl rfl ?_; rintro _ _ ⟨b5, rfl, hb5, hs, hE⟩) | (apply aH (t := 7); refine JL_o (by apply cA; exact bE hs rfl) rfl rfl ?_; rintro _ _ ⟨b7, rfl, hb7, hs, hE⟩) | (apply aH (t := 10); refine JL_o (by apply bA; exact aR hs) rfl rfl ?_; rintro _ _ ⟨b10, rfl, hb10, hs, hE⟩) | (apply bI; refine JL_u (by apply bB; exact aY hs rfl rfl rfl) rfl ?_; rintro _ _ ⟨hs, hF⟩) | (apply aT; first | refine bH rfl ob ?_ | refine bL rfl ob ?_ | refine bM rfl gb ?_))
    refine aZ Tryz.func100 rfl (.agg' hs rfl rfl (.tmp rfl (.tmp rfl .nil))) (.inl ⟨by decide, rfl, hs.frm.ext⟩)
  rw [if_neg h12] at hgc
  obtain ⟨ZL, hZL⟩ : ∃ z, z = wiT x.2.1 id := ⟨_, rfl⟩
  have hwC : jC x.2.1 id = 0 := by unfold jC; rw [if_pos hTy, if_pos hmay, if_neg (by rw [pI hTr, nL hin]; omega)]
  have hwL : iB x.2.1 id = ZL := by unfold iB; rw [if_pos hwC, pI hTr, hZL]
  have hZo : ∀ u ∈ ZL, okId u := by rw [hZL]; exact (fun u hu => (wiT_mem.1 hu).elim (fun e => e ▸ hid) (fun e => nY mT u e))
  have hZl : ZL.length ≤ 1000000 := by rw [hZL, nL hin]; omega
  have hne0 : ZL ≠ x.2.1 := fun e => hin (by rw [← e, hZL]; exact wiT_mem.2 (.inl rfl))
  have hsf : mS N ((p : Int) + 1) id true = false := by rw [hst, decide_eq_false hin]
  rw [← hZL] at hgc
  have hzeq : decide (ZL = x.2.1) = false := decide_eq_false hne0
  obtain ⟨oc, hoc⟩ : ∃ e, ofC N ZL = e := ⟨_, rfl⟩
  by_cases ho0 : oc ≠ 0
  · rw [hgc, hoc]
    repeat' (first | ((apply aV 46; refine JL_o (by exact aB en46 rfl (dP _ (some ⟨b0, o0, none⟩) a2 n c n2 c2 N E (h.st hs) (hE0.st hs) hn2 hz)) rfl rfl ?_; rintro _ _ ⟨rfl, hE⟩; rw [he]; have hs := hs.ext hE; (try simp only [zcc] at hs))) | ((apply aV 105; refine JL_o (by exact aB fI rfl (is_r _ (some ⟨b0, o0, none⟩) a2 n c n2 c2 N ((p : Int) + 1) (h.st hs) hx0)) rfl rfl ?_; rintro _ _ ⟨rfl, hE⟩; rw [hi]; have hs := hs.ext hE; (try simp only [zcc] at hs))) | ((apply aH (t := 43); refine JL_o (cE rfl rfl (Ret.value (cap := #[]) en45 (iK _ r0.2.1.1 r0.2.1.2.1 r0.2.1.2.2 x.2.1 id (mT.st hs) hid))) rfl rfl ?_; rintro _ _ ⟨aw, rfl, hf⟩; rw [hwL] at hf; rw [hwC, hwL]; have hs := hs.fresh hf; (try simp only [zcc] at hs))) | ((apply aV 43; refine JL_o (by exact aB en43 rfl (cV _ aw r0.2.1.1 ZL.length ZL.length r0.2.1.2.1 r0.2.1.2.2 ZL x.2.1 (slU hs zmm hZo) (mT.st hs))) rfl rfl ?_; rintro _ _ ⟨rfl, hE⟩; rw [hzeq]; have hs := hs.ext hE; (try simp only [zcc] at hs))) | ((apply aV 99; refine JL_o (by exact aB en99 rfl (zL _ (some ⟨b0, o0, none⟩) a2 aw n c n2 c2 ZL.length ZL.length N E ZL (h.st hs) (hE0.st hs) (slU hs zmm hZo) hn hn2 hz hc (by rw [hoc]; exact ho0))) rfl rfl ?_; rintro _ _ ⟨rfl, hE⟩; rw [hoc]; have hs := hs.ext hE; (try simp only [zcc] at hs))) | (apply aU) | ((apply aK); (first | (apply aX; first | exact aW hs rfl rfl aA | exact aI hs rfl aA | exact cL (i := ((p : Int) + 1 - 1).toNat) (j := 1) (hr.st hs) hr0' rfl rfl rfl aA) | (apply aQ; exact aJ rfl aA) | (apply aF; exact aC rfl aA) | (apply aS; first | exact aN rfl rfl aA | exact bJ rfl rfl aA) | (apply eW; exact dS rfl rfl (by omega) aA) | (apply aL; exact aM rfl rfl rfl aA) | (apply cF; exact cG rfl aA) | (apply cD; exact bU rfl rfl aA) | (apply aP; exact aO rfl rfl (by omega) (by omega) aA) | (apply dE; exact cW rfl (by (simp only [bld, dB, bY, Value.cells, List.take_succ_cons, List.take_zero, List.drop_succ_cons, List.drop_zero, List.cons_append, List.nil_append, List.length_cons, List.length_nil, List.getElem?_cons_zero, List.getElem?_cons_succ, Option.map_some, List.append_nil, Nat.reduceAdd, Nat.reduceMul, Nat.zero_add, Nat.reduceLeDiff, and_self, if_true, List.toList_toArray, Nat.le_refl, Nat.zero_mul, Nat.one_mul]; first | done | rfl)) aA)); first | (exact rfl; exact rfl) | exact rfl) | (apply bC) | (apply aG) | (apply bK) | (apply aH (t := 5); refine JL_o (by apply cA; exact bE hs rfl) rfl rfl ?_; rintro _ _ ⟨b5, rfl, hb5, hs, hE⟩) | (apply aH (t := 7); refine JL_o (by apply cA; exact bE hs rfl) rfl rfl ?_; rintro _ _ ⟨b7, rfl, hb7, hs, hE⟩) | (apply aH (t := 10); refine JL_o (by apply bA; exact aR hs) rfl rfl ?_; rintro _ _ ⟨b10, rfl, hb10, hs, hE⟩) | (apply bI; refine JL_u (by apply bB; exact aY hs rfl rfl rfl) rfl ?_; rintro _ _ ⟨hs, hF⟩) | (apply aT; first | refine bH rfl ob ?_ | refine bL rfl ob ?_ | refine bM rfl gb ?_))
    refine aZ Tryz.func100 rfl (.agg' hs rfl rfl (.tmp rfl (.tmp rfl .nil))) (.inl ⟨ho0, rfl, hs.frm.ext⟩)
  have hgz0 : ofC N ZL = 0 := by rw [hoc]; exact Decidable.not_not.1 ho0
  have hgz : goC N ((p : Int) + 1) id true = 0 := by rw [hgc, hgz0]
  obtain ⟨p2, q, x2, y, hg⟩ : ∃ (p2 q : Nat) (x2 y : NM), Gone N ((p : Int) + 1) id true p2 q x2 y := by
    rcases oO g hgz with ⟨h1, _⟩ | ⟨_, h1⟩
    · rw [hsf] at h1; cases h1
    · exact h1
  have hpp : p2 = p := by have := hg.np; omega
  rw [hpp] at hg
  have hxx : x2 = x := by have := hg.hx; rw [hxp] at this; exact (Option.some.inj this).symm
  rw [hxx] at hg
  clear hpp hxx
  obtain ⟨eL, eN⟩ := hg.goL hgz hsf
  obtain ⟨hlh, gL, hentL⟩ := hg.facts g
  have hof : ofL N (gX true x.2.1 id) = ofL N ZL := by rw [hZL]; rfl
  have hofn : ofn N ZL = q + 1 := by rw [← hg.hq, hZL]; rfl
  have hp1 : (ofL N ZL)[p]? = some x := by rw [← hof]; exact hg.hp'
  have hq1 : (ofL N ZL)[q]? = some y := by rw [← hof]; exact hg.hy
  have g1 : GR (ofL N ZL) := by rw [← hof]; exact hg.gr
  rw [hof] at eL hentL
  have hz1 := szN_of (t := ZL) hz hZl
  obtain ⟨_, zx2, zx3⟩ := hz1 x (List.mem_of_getElem? hp1)
  obtain ⟨_, zy2, zy3⟩ := hz1 y (List.mem_of_getElem? hq1)
  have hpl1 := (List.getElem?_eq_some_iff.1 hp1).1
  have hql1 := (List.getElem?_eq_some_iff.1 hq1).1
  have hne : p ≠ q := hlh
  have hlk := vT (N := ofL N ZL) (lo := p) (hi := q) (id := id) (a := y) (b := x) hq1 hp1
  rw [hgz, eN, eL]
  rw [show fW (ofL N ZL) (loP true p q) (hiP true p q) id = fW (ofL N ZL) p q id from rfl] at hentL ⊢
  have ip : ((p : Int) + 1 - 1).toNat = p := by omega
  have iq : ((q : Int) + 1 - 1).toNat = q := by omega
  have htq : inK .i64 ((q : Int) + 1) := (okT_of hid (by have := yV N ZL; omega)).2
  have htp : inK .i64 ((p : Int) + 1) := hx0
  have rz1 := g1.rise p x hp1
  have rz2 := g1.rise q y hq1
  have sm1 : ∀ s ∈ x.2.2.1, s.1 = id → s = (id, (q : Int) + 1) := fun s hs e => rI g1 (g1.plus p x hp1 s hs) hq1 hg.yu hg.yt e
  have sm2 : ∀ s ∈ y.2.2.2, s.1 = id → s = (id, (p : Int) + 1) := fun s hs e => rI g1 (g1.less q y hq1 s hs) hp1 hg.xu (by rw [hg.yt]; exact (yS hTr hin).symm) e
  repeat' (first | ((apply aV 46; refine JL_o (by exact aB en46 rfl (dP _ (some ⟨b0, o0, none⟩) a2 n c n2 c2 N E (h.st hs) (hE0.st hs) hn2 hz)) rfl rfl ?_; rintro _ _ ⟨rfl, hE⟩; rw [he]; have hs := hs.ext hE; (try simp only [zcc] at hs))) | ((apply aV 105; refine JL_o (by exact aB fI rfl (is_r _ (some ⟨b0, o0, none⟩) a2 n c n2 c2 N ((p : Int) + 1) (h.st hs) hx0)) rfl rfl ?_; rintro _ _ ⟨rfl, hE⟩; rw [hi]; have hs := hs.ext hE; (try simp only [zcc] at hs))) | ((apply aH (t := 43); refine JL_o (cE rfl rfl (Ret.value (cap := #[]) en45 (iK _ r0.2.1.1 r0.2.1.2.1 r0.2.1.2.2 x.2.1 id (mT.st hs) hid))) rfl rfl ?_; rintro _ _ ⟨aw, rfl, hf⟩; rw [hwL] at hf; rw [hwC, hwL]; have hs := hs.fresh hf; (try simp only [zcc] at hs))) | ((apply aV 43; refine JL_o (by exact aB en43 rfl (cV _ aw r0.2.1.1 ZL.length ZL.length r0.2.1.2.1 r0.2.1.2.2 ZL x.2.1 (slU hs zmm hZo) (mT.st hs))) rfl rfl ?_; rintro _ _ ⟨rfl, hE⟩; rw [hzeq]; have hs := hs.ext hE; (try simp only [zcc] at hs))) | ((apply aV 99; refine JL_o (by exact aB en99 rfl (gof_ok _ (some ⟨b0, o0, none⟩) a2 aw n c n2 c2 ZL.length ZL.length N E ZL (h.st hs) (hE0.st hs) (slU hs zmm hZo) hn hn2 hz hc hgz0)) rfl rfl ?_; rintro _ _ ⟨a', m', c', a2', m2, c2', rfl, hm', qs, es, rs', ⟨hqm, hqo⟩, ⟨hce, hAe⟩, ⟨hNl, hel, hm2⟩, hf⟩; rw [hofn]; rw [show (((q + 1 : Nat)) : Int) = (q : Int) + 1 from rfl]; have hs := hs.fresh hf; simp only [zcc] at hs; obtain ⟨b, o, rfl⟩ := (hs.row a' m' c').some (by omega); obtain ⟨qp, hqp, hqpm⟩ := sY hqm hp1; obtain ⟨qq, hqq, hqqm⟩ := sY hqm hq1; (try simp only [zcc] at hs))) | ((apply aH (t := 84); have hs1 : St w NoF _ (OwnN qs :: TabN (some ⟨b, o, none⟩) m' c' (qs.map rawN) :: [_, _, _, _, _]) := hs.sel [1, 0, 2, 3, 5, 6, 7] (by decide); refine JL_o (cE rfl rfl (Ret.value (cap := #[ptr b7]) en170 (zH w NoF _ _ b o m' c' ((p : Int) + 1 - 1).toNat p qs qp x id ((q : Int) + 1) b7 ip hs1 zmm hqp hqpm (hqo _ (List.mem_of_getElem? hqp)) hid htq rz1.1 sm1 zx2))) rfl rfl ?_; rintro _ _ ⟨qn1, ⟨hn1, ho1⟩, hs⟩; have hqq1 : (qs.set p qn1)[q]? = some qq := (by rw [List.getElem?_set_ne (fun e => hne (by first | exact e | exact e.symm))]; exact hqq))) | ((apply aH (t := 90); refine JL_o (cE rfl rfl (Ret.value (cap := #[ptr b7]) en170 (zI w NoF _ _ b o m' c' ((q : Int) + 1 - 1).toNat q (qs.set p qn1) qq y id ((p : Int) + 1) b7 iq hs zmm hqq1 hqqm (hqo _ (List.mem_of_getElem? hqq)) hid htp rz2.2 sm2 zy3))) rfl rfl ?_; rintro _ _ ⟨qn2, ⟨hn2, ho2⟩, hs⟩)) | (apply aU) | ((first | (apply aK) | (apply JX_f; exact rfl; intro W X hs)); (first | (apply aX; first | exact aW hs rfl rfl aA | exact aI hs rfl aA | exact cL (i := ((p : Int) + 1 - 1).toNat) (j := 1) (hr.st hs) hr0' rfl rfl rfl aA) | (apply aQ; exact aJ rfl aA) | (apply aF; exact aC rfl aA) | (apply aS; first | exact aN rfl rfl aA | exact bJ rfl rfl aA) | (apply eW; exact dS rfl rfl (by omega) aA) | (apply aL; exact aM rfl rfl rfl aA) | (apply cF; exact cG rfl aA) | (apply jO; exact iV rfl aA) | (apply cD; exact bU rfl rfl aA) | (apply eX; exact gS rfl aA) | (apply aP; exact aO rfl rfl (by omega) (by omega) aA)); first | (exact rfl; exact rfl) | exact rfl) | (apply bC) | (apply aG) | (apply bK) | (apply aH (t := 5); refine JL_o (by apply cA; exact bE hs rfl) rfl rfl ?_; rintro _ _ ⟨b5, rfl, hb5, hs, hE⟩) | (apply aH (t := 7); refine JL_o (by apply cA; exact bE hs rfl) rfl rfl ?_; rintro _ _ ⟨b7, rfl, hb7, hs, hE⟩) | (apply aH (t := 10); refine JL_o (by apply bA; exact aR hs) rfl rfl ?_; rintro _ _ ⟨b10, rfl, hb10, hs, hE⟩) | (apply bI; refine JL_u (by apply bB; exact aY hs rfl rfl rfl) rfl ?_; rintro _ _ ⟨hs, hF⟩) | (apply aT; first | refine bL rfl ob ?_ | refine bQ rfl gb ?_ | refine bM rfl gb ?_) | (apply cZ; (refine dD (id := 16) [0, 1, 0, 4, 15, 0, 32, 0, 128, 480, 31, 2047] [(0, 0), (1, 0), (2, 0), (3, 0), (4, 0), (5, 0), (6, 0), (7, 0), (8, 0), (9, 0), (10, 0), (11, 0)] [] hs eQ (by kernel_rfl) (by kernel_rfl) (by kernel_rfl) (by kernel_rfl) (by kernel_rfl) ?_)) | (refine cX (fun W hs => ?_)) | (apply dL))
  have hmean : ((qs.set p qn1).set q qn2).map iX = fW (ofL N ZL) p q id := by
    rw [List.map_set, List.map_set, hqm, hn1, hn2, hlk]; exact List.set_comm _ _ (fun e => hne e)
  refine aZ Tryz.func100 rfl (.agg' hs rfl rfl (.tmp rfl (.tmp rfl .nil))) (.inr ⟨rfl, some ⟨b, o, none⟩, m', c', a2', m2, c2', rfl, hm', (qs.set p qn1).set q qn2, es, rs', ⟨hmean, jX (jX hqo ho1) ho2⟩, ⟨hce, hAe.trans hentL.symm⟩, ⟨(lN _ _ _ _).trans hNl, hel, hm2⟩, (hs.sel [1, 0, 2, 3] (by decide)).out (List.Sublist.refl _)⟩)
theorem zK (w : World) (a a2 : Option Addr) (n c n2 c2 : Nat) (N : List NM) (E : List Ent) (X0 id : Int) (h : Sl jA All w a n c N) (hE0 : Sl dEnt All w a2 n2 c2 E) (hn : n ≤ 900000) (hn2 : n2 ≤ 1048576) (hz : szN N) (hx0 : inK .i64 X0) (hid : okId id) :
    Ret Tryz.prog 100 #[.agg #[.slice a n c, .slice a2 n2 c2], .int .i64 X0, .int .u64 id, .bool false, .func (.func 101) #[] #[]] w fun v w' =>
      (goE N E X0 id false ≠ 0 ∧ v = .tuple #[.agg #[.slice none 0 0, .slice none 0 0], .int .i64 0, .int .i64 (goE N E X0 id false)] ∧ Ext w w') ∨
      (goE N E X0 id false = 0 ∧ ∃ a' m' c' a2' m2 c2', v = .tuple #[.agg #[.slice a' m' c', .slice a2' m2 c2'], .int .i64 (gon N X0 id false), .int .i64 0] ∧ m' ≤ n + 1 ∧ GOut w w' (goL N X0 id false) a' m' c' a2' m2 c2') := by
  refine cJ (l := [_, _, _, _, _]) Tryz.func100 rfl Tryz.ntmps100 (by simp) ?_
  have hs := St.init w
  have hl := h.len
  have hl2 := hE0.len
  obtain ⟨rs, hr, hm⟩ := Sl.raw (D := mX) h
  cases hc : eG N E with
  | false =>
    have he := jZ hc
    have eE : goE N E X0 id false = 220 := by unfold goE; rw [hc]; rfl
    rw [eE]
    repeat' (first | ((apply aV 46; refine JL_o (by exact aB en46 rfl (dP _ a a2 n c n2 c2 N E (h.st hs) (hE0.st hs) hn2 hz)) rfl rfl ?_; rintro _ _ ⟨rfl, hE⟩; rw [he]; have hs := hs.ext hE; (try simp only [zcc] at hs))) | (apply aU) | ((apply aK); (first | (apply aX; first | exact aW hs rfl rfl aA | exact aI hs rfl aA) | (apply aQ; exact aJ rfl aA) | (apply aF; exact aC rfl aA) | (apply aL; exact aM rfl rfl rfl aA) | (apply dE; exact cW rfl (by (simp only [bld, dB, bY, Value.cells, List.take_succ_cons, List.take_zero, List.drop_succ_cons, List.drop_zero, List.cons_append, List.nil_append, List.length_cons, List.length_nil, List.getElem?_cons_zero, List.getElem?_cons_succ, Option.map_some, List.append_nil, Nat.reduceAdd, Nat.reduceMul, Nat.zero_add, Nat.reduceLeDiff, and_self, if_true, List.toList_toArray, Nat.le_refl, Nat.zero_mul, Nat.one_mul]; first | done | rfl)) aA)); first | (exact rfl; exact rfl) | exact rfl) | (apply bC) | (apply aG) | (apply aH (t := 5); refine JL_o (by apply cA; exact bE hs rfl) rfl rfl ?_; rintro _ _ ⟨b5, rfl, hb5, hs, hE⟩) | (apply aH (t := 7); refine JL_o (by apply cA; exact bE hs rfl) rfl rfl ?_; rintro _ _ ⟨b7, rfl, hb7, hs, hE⟩) | (apply aH (t := 10); refine JL_o (by apply bA; exact aR hs) rfl rfl ?_; rintro _ _ ⟨b10, rfl, hb10, hs, hE⟩) | (apply bI; refine JL_u (by apply bB; exact aY hs rfl rfl rfl) rfl ?_; rintro _ _ ⟨hs, hF⟩) | (apply aT; refine bH rfl ob ?_))
    refine aZ Tryz.func100 rfl (.agg' hs rfl rfl (.tmp rfl (.tmp rfl .nil))) (.inl ⟨by decide, rfl, hs.frm.ext⟩)
  | true =>
  have he := hM hc
  obtain ⟨g, hcE, hA⟩ := check_iff.1 hc
  have eE : goE N E X0 id false = goC N X0 id false := by unfold goE; rw [hc]; rfl
  rw [eE]
  cases hi : isM N X0 with
  | false =>
    have e1 : goC N X0 id false = 2 := by unfold goC; rw [hi]; rfl
    rw [e1]
    repeat' (first | ((apply aV 46; refine JL_o (by exact aB en46 rfl (dP _ a a2 n c n2 c2 N E (h.st hs) (hE0.st hs) hn2 hz)) rfl rfl ?_; rintro _ _ ⟨rfl, hE⟩; rw [he]; have hs := hs.ext hE; (try simp only [zcc] at hs))) | ((apply aV 105; refine JL_o (by exact aB fI rfl (is_r _ a a2 n c n2 c2 N X0 (h.st hs) hx0)) rfl rfl ?_; rintro _ _ ⟨rfl, hE⟩; rw [hi]; have hs := hs.ext hE; (try simp only [zcc] at hs))) | (apply aU) | ((apply aK); (first | (apply aX; first | exact aW hs rfl rfl aA | exact aI hs rfl aA) | (apply aQ; exact aJ rfl aA) | (apply aF; exact aC rfl aA) | (apply aL; exact aM rfl rfl rfl aA) | (apply cF; exact cG rfl aA) | (apply dE; exact cW rfl (by (simp only [bld, dB, bY, Value.cells, List.take_succ_cons, List.take_zero, List.drop_succ_cons, List.drop_zero, List.cons_append, List.nil_append, List.length_cons, List.length_nil, List.getElem?_cons_zero, List.getElem?_cons_succ, Option.map_some, List.append_nil, Nat.reduceAdd, Nat.reduceMul, Nat.zero_add, Nat.reduceLeDiff, and_self, if_true, List.toList_toArray, Nat.le_refl, Nat.zero_mul, Nat.one_mul]; first | done | rfl)) aA)); first | (exact rfl; exact rfl) | exact rfl) | (apply bC) | (apply aG) | (apply bK) | (apply aH (t := 5); refine JL_o (by apply cA; exact bE hs rfl) rfl rfl ?_; rintro _ _ ⟨b5, rfl, hb5, hs, hE⟩) | (apply aH (t := 7); refine JL_o (by apply cA; exact bE hs rfl) rfl rfl ?_; rintro _ _ ⟨b7, rfl, hb7, hs, hE⟩) | (apply aH (t := 10); refine JL_o (by apply bA; exact aR hs) rfl rfl ?_; rintro _ _ ⟨b10, rfl, hb10, hs, hE⟩) | (apply bI; refine JL_u (by apply bB; exact aY hs rfl rfl rfl) rfl ?_; rintro _ _ ⟨hs, hF⟩) | (apply aT; first | refine bL rfl ob ?_ | refine bQ rfl gb ?_))
    refine aZ Tryz.func100 rfl (.agg' hs rfl rfl (.tmp rfl (.tmp rfl .nil))) (.inl ⟨by decide, rfl, hs.frm.ext⟩)
  | true =>
  obtain ⟨p, x, rfl, hxp, hxu⟩ := isM_true.1 hi
  have hpl := (List.getElem?_eq_some_iff.1 hxp).1
  have hnd : dT N ((p : Int) + 1) = x := dM hxp
  obtain ⟨r0, hr0, hrel0⟩ := hm.get hxp
  obtain ⟨u1, mT, u3, u4⟩ := sX hrel0
  have mTl := mT.len
  have hTy := g.typ p x hxp hxu
  obtain ⟨hT12, hTr, _⟩ := typeB_iff.1 hTy
  have hr0' : rs[((p : Int) + 1 - 1).toNat]? = some r0 := by rw [show ((p : Int) + 1 - 1).toNat = p by omega]; exact hr0
  have hbx : 0 ≤ (p : Int) + 1 - 1 ∧ (p : Int) + 1 - 1 < n := by omega
  obtain ⟨b0, o0, rfl⟩ := hr.sl.addr (by omega)
  have hgc : goC N ((p : Int) + 1) id false = (if id ∈ x.2.1 then ofC N (outT x.2.1 id) else 4) := by unfold goC; rw [hi, if_pos rfl, hnd]; rfl
  have hst : mS N ((p : Int) + 1) id false = false := by unfold mS; rw [hnd]; rfl
  by_cases hin : id ∈ x.2.1
  rotate_left
  · rw [if_neg hin] at hgc
    have hwC : outC x.2.1 id = 4 := by unfold outC; rw [if_pos hTy, if_neg hin]
    have hwL : outL x.2.1 id = [] := by unfold outL; rw [hwC]; rfl
    rw [hgc]
    repeat' (first | ((apply aV 46; refine JL_o (by exact aB en46 rfl (dP _ (some ⟨b0, o0, none⟩) a2 n c n2 c2 N E (h.st hs) (hE0.st hs) hn2 hz)) rfl rfl ?_; rintro _ _ ⟨rfl, hE⟩; rw [he]; have hs := hs.ext hE; (try simp only [zcc] at hs))) | ((apply aV 105; refine JL_o (by exact aB fI rfl (is_r _ (some ⟨b0, o0, none⟩) a2 n c n2 c2 N ((p : Int) + 1) (h.st hs) hx0)) rfl rfl ?_; rintro _ _ ⟨rfl, hE⟩; rw [hi]; have hs := hs.ext hE; (try simp only [zcc] at hs))) | ((apply aH (t := 43); refine JL_o (cE rfl rfl (Ret.value (cap := #[]) uX (jJ _ r0.2.1.1 r0.2.1.2.1 r0.2.1.2.2 x.2.1 id (mT.st hs)))) rfl rfl ?_; rintro _ _ ⟨aw, cw, rfl, hf⟩; rw [hwL] at hf; rw [hwC, hwL]; have hs := hs.fresh hf; (try simp only [zcc] at hs))) | (apply aU) | ((apply aK); (first | (apply aX; first | exact aW hs rfl rfl aA | exact aI hs rfl aA | exact cL (i := ((p : Int) + 1 - 1).toNat) (j := 1) (hr.st hs) hr0' rfl rfl rfl aA) | (apply aQ; exact aJ rfl aA) | (apply aF; exact aC rfl aA) | (apply aS; first | exact aN rfl rfl aA | exact bJ rfl rfl aA) | (apply eW; exact dS rfl rfl (by omega) aA) | (apply aL; exact aM rfl rfl rfl aA) | (apply cF; exact cG rfl aA) | (apply cD; exact bU rfl rfl aA) | (apply aP; exact aO rfl rfl (by omega) (by omega) aA) | (apply dE; exact cW rfl (by (simp only [bld, dB, bY, Value.cells, List.take_succ_cons, List.take_zero, List.drop_succ_cons, List.drop_zero, List.cons_append, List.nil_append, List.length_cons, List.length_nil, List.getElem?_cons_zero, List.getElem?_cons_succ, Option.map_some, List.append_nil, Nat.reduceAdd, Nat.reduceMul, Nat.zero_add, Nat.reduceLeDiff, and_self, if_true, List.toList_toArray, Nat.le_refl, Nat.zero_mul, Nat.one_mul]; first | done | rfl)) aA)); first | (exact rfl; exact rfl) | exact rfl) | (apply bC) | (apply aG) | (apply bK) | (apply aH (t := 5); refine JL_o (by apply cA; exact bE hs rfl) rfl rfl ?_; rintro _ _ ⟨b5, rfl, hb5, hs, hE⟩) | (apply aH (t := 7); refine JL_o (by apply cA; exact bE hs rfl) rfl rfl ?_; rintro _ _ ⟨b7, rfl, hb7, hs, hE⟩) | (apply aH (t := 10); refine JL_o (by apply bA; exact aR hs) rfl rfl ?_; rintro _ _ ⟨b10, rfl, hb10, hs, hE⟩) | (apply bI; refine JL_u (by apply bB; exact aY hs rfl rfl rfl) rfl ?_; rintro _ _ ⟨hs, hF⟩) | (apply aT; first | refine bH rfl ob ?_ | refine bL rfl ob ?_ | refine bM rfl gb ?_))
    refine aZ Tryz.func100 rfl (.agg' hs rfl rfl (.tmp rfl (.tmp rfl .nil))) (.inl ⟨by decide, rfl, hs.frm.ext⟩)
  rw [if_pos hin] at hgc
  obtain ⟨ZL, hZL⟩ : ∃ z, z = outT x.2.1 id := ⟨_, rfl⟩
  obtain ⟨hwC, hwL0⟩ := oB hTy hin
  have hwL : outL x.2.1 id = ZL := by rw [hwL0, hZL]
  have hZo : ∀ u ∈ ZL, okId u := by rw [hZL]; exact (fun u hu => nY mT u (outT_mem.1 hu).1)
  have hZl : ZL.length ≤ 1000000 := by rw [hZL]; have := vP x.2.1 id; omega
  have hne0 : ZL ≠ x.2.1 := fun e => by rw [← e, hZL, outT_mem] at hin; exact hin.2 rfl
  have hsf : mS N ((p : Int) + 1) id false = false := hst
  rw [← hZL] at hgc
  have hzeq : decide (ZL = x.2.1) = false := decide_eq_false hne0
  obtain ⟨oc, hoc⟩ : ∃ e, ofC N ZL = e := ⟨_, rfl⟩
  by_cases ho0 : oc ≠ 0
  · rw [hgc, hoc]
    repeat' (first | ((apply aV 46; refine JL_o (by exact aB en46 rfl (dP _ (some ⟨b0, o0, none⟩) a2 n c n2 c2 N E (h.st hs) (hE0.st hs) hn2 hz)) rfl rfl ?_; rintro _ _ ⟨rfl, hE⟩; rw [he]; have hs := hs.ext hE; (try simp only [zcc] at hs))) | ((apply aV 105; refine JL_o (by exact aB fI rfl (is_r _ (some ⟨b0, o0, none⟩) a2 n c n2 c2 N ((p : Int) + 1) (h.st hs) hx0)) rfl rfl ?_; rintro _ _ ⟨rfl, hE⟩; rw [hi]; have hs := hs.ext hE; (try simp only [zcc] at hs))) | ((apply aH (t := 43); refine JL_o (cE rfl rfl (Ret.value (cap := #[]) uX (jJ _ r0.2.1.1 r0.2.1.2.1 r0.2.1.2.2 x.2.1 id (mT.st hs)))) rfl rfl ?_; rintro _ _ ⟨aw, cw, rfl, hf⟩; rw [hwL] at hf; rw [hwC, hwL]; have hs := hs.fresh hf; (try simp only [zcc] at hs))) | ((apply aV 43; refine JL_o (by exact aB en43 rfl (cV _ aw r0.2.1.1 ZL.length cw r0.2.1.2.1 r0.2.1.2.2 ZL x.2.1 (slU hs zmm hZo) (mT.st hs))) rfl rfl ?_; rintro _ _ ⟨rfl, hE⟩; rw [hzeq]; have hs := hs.ext hE; (try simp only [zcc] at hs))) | ((apply aV 99; refine JL_o (by exact aB en99 rfl (zL _ (some ⟨b0, o0, none⟩) a2 aw n c n2 c2 ZL.length cw N E ZL (h.st hs) (hE0.st hs) (slU hs zmm hZo) hn hn2 hz hc (by rw [hoc]; exact ho0))) rfl rfl ?_; rintro _ _ ⟨rfl, hE⟩; rw [hoc]; have hs := hs.ext hE; (try simp only [zcc] at hs))) | (apply aU) | ((apply aK); (first | (apply aX; first | exact aW hs rfl rfl aA | exact aI hs rfl aA | exact cL (i := ((p : Int) + 1 - 1).toNat) (j := 1) (hr.st hs) hr0' rfl rfl rfl aA) | (apply aQ; exact aJ rfl aA) | (apply aF; exact aC rfl aA) | (apply aS; first | exact aN rfl rfl aA | exact bJ rfl rfl aA) | (apply eW; exact dS rfl rfl (by omega) aA) | (apply aL; exact aM rfl rfl rfl aA) | (apply cF; exact cG rfl aA) | (apply cD; exact bU rfl rfl aA) | (apply aP; exact aO rfl rfl (by omega) (by omega) aA) | (apply dE; exact cW rfl (by (simp only [bld, dB, bY, Value.cells, List.take_succ_cons, List.take_zero, List.drop_succ_cons, List.drop_zero, List.cons_append, List.nil_append, List.length_cons, List.length_nil, List.getElem?_cons_zero, List.getElem?_cons_succ, Option.map_some, List.append_nil, Nat.reduceAdd, Nat.reduceMul, Nat.zero_add, Nat.reduceLeDiff, and_self, if_true, List.toList_toArray, Nat.le_refl, Nat.zero_mul, Nat.one_mul]; first | done | rfl)) aA)); first | (exact rfl; exact rfl) | exact rfl) | (apply bC) | (apply aG) | (apply bK) | (apply aH (t := 5); refine JL_o (by apply cA; exact bE hs rfl) rfl rfl ?_; rintro _ _ ⟨b5, rfl, hb5, hs, hE⟩) | (apply aH (t := 7); refine JL_o (by apply cA; exact bE hs rfl) rfl rfl ?_; rintro _ _ ⟨b7, rfl, hb7, hs, hE⟩) | (apply aH (t := 10); refine JL_o (by apply bA; exact aR hs) rfl rfl ?_; rintro _ _ ⟨b10, rfl, hb10, hs, hE⟩) | (apply bI; refine JL_u (by apply bB; exact aY hs rfl rfl rfl) rfl ?_; rintro _ _ ⟨hs, hF⟩) | (apply aT; first | refine bH rfl ob ?_ | refine bL rfl ob ?_ | refine bM rfl gb ?_))
    refine aZ Tryz.func100 rfl (.agg' hs rfl rfl (.tmp rfl (.tmp rfl .nil))) (.inl ⟨ho0, rfl, hs.frm.ext⟩)
  have hgz0 : ofC N ZL = 0 := by rw [hoc]; exact Decidable.not_not.1 ho0
  have hgz : goC N ((p : Int) + 1) id false = 0 := by rw [hgc, hgz0]
  obtain ⟨p2, q, x2, y, hg⟩ : ∃ (p2 q : Nat) (x2 y : NM), Gone N ((p : Int) + 1) id false p2 q x2 y := by
    rcases oO g hgz with ⟨h1, _⟩ | ⟨_, h1⟩
    · rw [hsf] at h1; cases h1
    · exact h1
  have hpp : p2 = p := by have := hg.np; omega
  rw [hpp] at hg
  have hxx : x2 = x := by have := hg.hx; rw [hxp] at this; exact (Option.some.inj this).symm
  rw [hxx] at hg
  clear hpp hxx
  obtain ⟨eL, eN⟩ := hg.goL hgz hsf
  obtain ⟨hlh, gL, hentL⟩ := hg.facts g
  have hof : ofL N (gX false x.2.1 id) = ofL N ZL := by rw [hZL]; rfl
  have hofn : ofn N ZL = q + 1 := by rw [← hg.hq, hZL]; rfl
  have hp1 : (ofL N ZL)[p]? = some x := by rw [← hof]; exact hg.hp'
  have hq1 : (ofL N ZL)[q]? = some y := by rw [← hof]; exact hg.hy
  have g1 : GR (ofL N ZL) := by rw [← hof]; exact hg.gr
  rw [hof] at eL hentL
  have hz1 := szN_of (t := ZL) hz hZl
  obtain ⟨_, zx2, zx3⟩ := hz1 x (List.mem_of_getElem? hp1)
  obtain ⟨_, zy2, zy3⟩ := hz1 y (List.mem_of_getElem? hq1)
  have hpl1 := (List.getElem?_eq_some_iff.1 hp1).1
  have hql1 := (List.getElem?_eq_some_iff.1 hq1).1
  have hne : q ≠ p := hlh
  have hlk := vT (N := ofL N ZL) (lo := q) (hi := p) (id := id) (a := x) (b := y) hp1 hq1
  rw [hgz, eN, eL]
  rw [show fW (ofL N ZL) (loP false p q) (hiP false p q) id = fW (ofL N ZL) q p id from rfl] at hentL ⊢
  have ip : ((p : Int) + 1 - 1).toNat = p := by omega
  have iq : ((q : Int) + 1 - 1).toNat = q := by omega
  have htq : inK .i64 ((q : Int) + 1) := (okT_of hid (by have := yV N ZL; omega)).2
  have htp : inK .i64 ((p : Int) + 1) := hx0
  have rz1 := g1.rise p x hp1
  have rz2 := g1.rise q y hq1
  have sm1 : ∀ s ∈ x.2.2.2, s.1 = id → s = (id, (q : Int) + 1) := fun s hs e => rI g1 (g1.less p x hp1 s hs) hq1 hg.yu hg.yt e
  have sm2 : ∀ s ∈ y.2.2.1, s.1 = id → s = (id, (p : Int) + 1) := fun s hs e => rI g1 (g1.plus q y hq1 s hs) hp1 hg.xu (by rw [hg.yt]; exact (wi_out hTr hin).symm) e
  repeat' (first | ((apply aV 46; refine JL_o (by exact aB en46 rfl (dP _ (some ⟨b0, o0, none⟩) a2 n c n2 c2 N E (h.st hs) (hE0.st hs) hn2 hz)) rfl rfl ?_; rintro _ _ ⟨rfl, hE⟩; rw [he]; have hs := hs.ext hE; (try simp only [zcc] at hs))) | ((apply aV 105; refine JL_o (by exact aB fI rfl (is_r _ (some ⟨b0, o0, none⟩) a2 n c n2 c2 N ((p : Int) + 1) (h.st hs) hx0)) rfl rfl ?_; rintro _ _ ⟨rfl, hE⟩; rw [hi]; have hs := hs.ext hE; (try simp only [zcc] at hs))) | ((apply aH (t := 43); refine JL_o (cE rfl rfl (Ret.value (cap := #[]) uX (jJ _ r0.2.1.1 r0.2.1.2.1 r0.2.1.2.2 x.2.1 id (mT.st hs)))) rfl rfl ?_; rintro _ _ ⟨aw, cw, rfl, hf⟩; rw [hwL] at hf; rw [hwC, hwL]; have hs := hs.fresh hf; (try simp only [zcc] at hs))) | ((apply aV 43; refine JL_o (by exact aB en43 rfl (cV _ aw r0.2.1.1 ZL.length cw r0.2.1.2.1 r0.2.1.2.2 ZL x.2.1 (slU hs zmm hZo) (mT.st hs))) rfl rfl ?_; rintro _ _ ⟨rfl, hE⟩; rw [hzeq]; have hs := hs.ext hE; (try simp only [zcc] at hs))) | ((apply aV 99; refine JL_o (by exact aB en99 rfl (gof_ok _ (some ⟨b0, o0, none⟩) a2 aw n c n2 c2 ZL.length cw N E ZL (h.st hs) (hE0.st hs) (slU hs zmm hZo) hn hn2 hz hc hgz0)) rfl rfl ?_; rintro _ _ ⟨a', m', c', a2', m2, c2', rfl, hm', qs, es, rs', ⟨hqm, hqo⟩, ⟨hce, hAe⟩, ⟨hNl, hel, hm2⟩, hf⟩; rw [hofn]; rw [show (((q + 1 : Nat)) : Int) = (q : Int) + 1 from rfl]; have hs := hs.fresh hf; simp only [zcc] at hs; obtain ⟨b, o, rfl⟩ := (hs.row a' m' c').some (by omega); obtain ⟨qp, hqp, hqpm⟩ := sY hqm hp1; obtain ⟨qq, hqq, hqqm⟩ := sY hqm hq1; (try simp only [zcc] at hs))) | ((apply aH (t := 96); have hs1 : St w NoF _ (OwnN qs :: TabN (some ⟨b, o, none⟩) m' c' (qs.map rawN) :: [_, _, _, _, _]) := hs.sel [1, 0, 2, 3, 5, 6, 7] (by decide); refine JL_o (cE rfl rfl (Ret.value (cap := #[ptr b7]) en170 (zI w NoF _ _ b o m' c' ((p : Int) + 1 - 1).toNat p qs qp x id ((q : Int) + 1) b7 ip hs1 zmm hqp hqpm (hqo _ (List.mem_of_getElem? hqp)) hid htq rz1.2 sm1 zx3))) rfl rfl ?_; rintro _ _ ⟨qn1, ⟨hn1, ho1⟩, hs⟩; have hqq1 : (qs.set p qn1)[q]? = some qq := (by rw [List.getElem?_set_ne (fun e => hne (by first | exact e | exact e.symm))]; exact hqq))) | ((apply aH (t := 102); refine JL_o (cE rfl rfl (Ret.value (cap := #[ptr b7]) en170 (zH w NoF _ _ b o m' c' ((q : Int) + 1 - 1).toNat q (qs.set p qn1) qq y id ((p : Int) + 1) b7 iq hs zmm hqq1 hqqm (hqo _ (List.mem_of_getElem? hqq)) hid htp rz2.1 sm2 zy2))) rfl rfl ?_; rintro _ _ ⟨qn2, ⟨hn2, ho2⟩, hs⟩)) | (apply aU) | ((first | (apply aK) | (apply JX_f; exact rfl; intro W X hs)); (first | (apply aX; first | exact aW hs rfl rfl aA | exact aI hs rfl aA | exact cL (i := ((p : Int) + 1 - 1).toNat) (j := 1) (hr.st hs) hr0' rfl rfl rfl aA) | (apply aQ; exact aJ rfl aA) | (apply aF; exact aC rfl aA) | (apply aS; first | exact aN rfl rfl aA | exact bJ rfl rfl aA) | (apply eW; exact dS rfl rfl (by omega) aA) | (apply aL; exact aM rfl rfl rfl aA) | (apply cF; exact cG rfl aA) | (apply jO; exact iV rfl aA) | (apply cD; exact bU rfl rfl aA) | (apply eX; exact gS rfl aA) | (apply aP; exact aO rfl rfl (by omega) (by omega) aA)); first | (exact rfl; exact rfl) | exact rfl) | (apply bC) | (apply aG) | (apply bK) | (apply aH (t := 5); refine JL_o (by apply cA; exact bE hs rfl) rfl rfl ?_; rintro _ _ ⟨b5, rfl, hb5, hs, hE⟩) | (apply aH (t := 7); refine JL_o (by apply cA; exact bE hs rfl) rfl rfl ?_; rintro _ _ ⟨b7, rfl, hb7, hs, hE⟩) | (apply aH (t := 10); refine JL_o (by apply bA; exact aR hs) rfl rfl ?_; rintro _ _ ⟨b10, rfl, hb10, hs, hE⟩) | (apply bI; refine JL_u (by apply bB; exact aY hs rfl rfl rfl) rfl ?_; rintro _ _ ⟨hs, hF⟩) | (apply aT; first | refine bL rfl ob ?_ | refine bM rfl gb ?_) | (apply cZ; (refine dD (id := 16) [0, 1, 0, 4, 15, 0, 32, 0, 128, 480, 31, 2047] [(0, 0), (1, 0), (2, 0), (3, 0), (4, 0), (5, 0), (6, 0), (7, 0), (8, 0), (9, 0), (10, 0), (11, 0)] [] hs eQ (by kernel_rfl) (by kernel_rfl) (by kernel_rfl) (by kernel_rfl) (by kernel_rfl) ?_)) | (refine cX (fun W hs => ?_)) | (apply dL))
  have hmean : ((qs.set p qn1).set q qn2).map iX = fW (ofL N ZL) q p id := by
    rw [List.map_set, List.map_set, hqm, hn1, hn2, hlk]
  refine aZ Tryz.func100 rfl (.agg' hs rfl rfl (.tmp rfl (.tmp rfl .nil))) (.inr ⟨rfl, some ⟨b, o, none⟩, m', c', a2', m2, c2', rfl, hm', (qs.set p qn1).set q qn2, es, rs', ⟨hmean, jX (jX hqo ho1) ho2⟩, ⟨hce, hAe.trans hentL.symm⟩, ⟨(lN _ _ _ _).trans hNl, hel, hm2⟩, (hs.sel [1, 0, 2, 3] (by decide)).out (List.Sublist.refl _)⟩)
end Go.Eng
end
section
namespace Go.Eng
open Go.Proofs
set_option linter.unusedSimpArgs false
set_option linter.unusedVariables false
def drC (N : List NM) (n : Int) : Int := if isM N n && !decide (n = 1) then 0 else 2
def drL (N : List NM) (n : Int) : List NM := if drC N n = 0 then kJ N (n - 1).toNat else []
def drE (N : List NM) (E : List Ent) (n : Int) : Int := if eG N E then drC N n else 220
def vA (P : Int) (x : NM) : NM := (x.1, x.2.1, fJ x.2.2.1 P, fJ x.2.2.2 P)
theorem away_map (N : List NM) (p : Nat) : (N.set p n0).map (vA ((p : Int) + 1)) = N.mapIdx (offN p) := by
  apply List.ext_getElem?
  intro i
  rw [List.getElem?_map, List.getElem?_mapIdx]
  by_cases e : i = p
  · subst e
    by_cases hl : i < N.length
    · rw [List.getElem?_set_self hl, List.getElem?_eq_getElem hl]
      show some (vA _ n0) = some (offN i i _)
      unfold offN
      rw [if_pos rfl]; rfl
    · rw [List.getElem?_eq_none (by rw [List.length_set]; omega), List.getElem?_eq_none (by omega)]; rfl
  · rw [List.getElem?_set_ne (by omega)]
    cases hx : N[i]? with
    | none => rfl
    | some x =>
      show some (vA _ x) = some (offN p i x)
      rw [gU e]; rfl
theorem St.cutN {w0 w : World} {F : Nat → Prop} {L : List HP} {qs : List QN} (m : Nat) (h : St w0 F w (OwnN qs :: L)) : St w0 F w (OwnN (qs.take m) :: L) := by
  have h2 : St w0 F w (qs.map rowN ++ L) := St.unstar h
  refine St.star (A := (qs.take m).map rowN) (h2.sub ?_)
  exact List.Sublist.append_right ((List.take_sublist m qs).map rowN) L
theorem tN {N : List NM} {E : List Ent} (h : eG N E = true) {p : Nat} {a : NM} (ha : N[p]? = some a) (hua : a.1 = true) {i : Nat} {e : Ent} (he : E[i]? = some e) (he1 : e.1 = 1) (het : e.2.1 = a.2.1) : allM (E.set i gone) = fP (kJ N p) := by
  obtain ⟨g, hc, hA⟩ := check_iff.1 h
  have hem : e ∈ E.filter eI := List.mem_filter.2 ⟨List.mem_of_getElem? he, decide_eq_true he1⟩
  have hx : ((1, a.2.1, (p : Int) + 1) : Ent) ∈ E.filter eI := (fY E).mem_iff.1 (by rw [hA]; exact ents_mem.2 ⟨p, a, ha, hua, rfl⟩)
  have hee : e = (1, a.2.1, (p : Int) + 1) := oE (eR hc) hem hx het
  have hp := uU he he1
  have hd : eK (e :: (E.set i gone).filter eI) := (hp.pairwise_iff (fun h => Ne.symm h)).1 (eR hc)
  have hne := (List.pairwise_cons.1 (eY hd)).1
  refine aAi (nT hc he he1) (pR g.uniq) fun u => ?_
  rw [pS ha hua g.uniq, ← hee, ← hA, (fY E).mem_iff, hp.mem_iff, List.mem_cons]
  constructor
  · intro h; exact ⟨.inr h, fun e => hne u h e.symm⟩
  · rintro ⟨h1 | h1, h2⟩
    · exact absurd h1 h2
    · exact h1
theorem uY {N : List NM} {E : List Ent} (h : eG N E = true) {p : Nat} {a : NM} (ha : N[p]? = some a) (hua : a.1 = true) : tO E a.2.1 = 0 := by
  obtain ⟨g, hc, hA⟩ := check_iff.1 h
  have hx : ((1, a.2.1, (p : Int) + 1) : Ent) ∈ E.filter eI := (fY E).mem_iff.1 (by rw [hA]; exact ents_mem.2 ⟨p, a, ha, hua, rfl⟩)
  exact xJ hc hx
theorem gone_len {E : List Ent} (i : Nat) : (E.set i gone).length = E.length := List.length_set
attribute [local irreducible] Hold J JL JD JX JXat JDH OpR OpG Ret RetV Is Blk Row
set_option maxRecDepth 100000
set_option maxHeartbeats 800000
theorem mE (w : World) (x : ST) (P : Int) (b3 : Nat) (hb3 : w.heap[b3]? = some (.cells #[.int .i64 P] 3 (0, 0))) : Ret Tryz.prog 108 (#[.agg (cT x).toArray] ++ #[ptr b3]) w fun v w' => v = .bool (decide (x.2 = P)) ∧ Ext w w' := by
  refine cJ (l := [_, _]) Tryz.func108 rfl Tryz.ntmps108 (by simp) ?_
  have hs := St.init w
  repeat' (first | (apply aU) | ((apply aK); (first | (apply aX; first | exact aW hs rfl rfl aA | exact bW (hs.old_cell (cQ (off := 0) hb3 rfl)) rfl aA) | (apply aF; exact aC rfl aA) | (apply aS; exact aN rfl rfl aA) | (apply aL; exact aM rfl rfl rfl aA)); first | (exact rfl; exact rfl) | exact rfl) | (apply bC) | (apply aG) | (apply aH (t := 2); refine JL_o (by apply cA; exact bE hs rfl) rfl rfl ?_; rintro _ _ ⟨b2, rfl, hb2, hs, hE⟩))
  refine aZ Tryz.func108 rfl (.tmp rfl .nil) ⟨rfl, hs.frm.ext⟩
-- WSPL 38 6 : [] [0, 1, 2]
theorem gdrop_r (w : World) (a a2 : Option Addr) (n c n2 c2 : Nat) (N : List NM) (E : List Ent) (X0 : Int) (h : Sl jA All w a n c N) (hE0 : Sl dEnt All w a2 n2 c2 E) (hn : n ≤ 900000) (hn2 : n2 ≤ 1048576) (hz : szN N) (hx0 : inK .i64 X0) :
    Ret Tryz.prog 38 #[.agg #[.slice a n c, .slice a2 n2 c2], .int .i64 X0] w fun v w' =>
      (drE N E X0 ≠ 0 ∧ v = .tuple #[.agg #[.slice none 0 0, .slice none 0 0], .int .i64 (drE N E X0)] ∧ Ext w w') ∨
      (drE N E X0 = 0 ∧ ∃ a' m' c' a2' m2 c2', v = .tuple #[.agg #[.slice a' m' c', .slice a2' m2 c2'], .int .i64 0] ∧ m' ≤ n ∧ GOut w w' (drL N X0) a' m' c' a2' m2 c2') := by
  refine cJ (l := [_, _]) Tryz.func38 rfl Tryz.ntmps38 (by simp) ?_
  have hs := St.init w
  have hl := h.len
  have hl2 := hE0.len
  obtain ⟨rs, hr, hm⟩ := Sl.raw (D := mX) h
  cases hc : eG N E with
  | false =>
    have he := jZ hc
    have eE : drE N E X0 = 220 := by unfold drE; rw [hc]; rfl
    rw [eE]
    repeat' (first | ((apply aV 46; refine JL_o (by exact aB en46 rfl (dP _ a a2 n c n2 c2 N E (h.st hs) (hE0.st hs) hn2 hz)) rfl rfl ?_; rintro _ _ ⟨rfl, hE⟩; rw [he]; have hs := hs.ext hE; (try simp only [zcc] at hs))) | (apply aU) | ((apply aK); (first | (apply aX; first | exact aW hs rfl rfl aA | exact aI hs rfl aA) | (apply aQ; exact aJ rfl aA) | (apply aF; exact aC rfl aA) | (apply aL; exact aM rfl rfl rfl aA) | (apply dE; exact cW rfl (by (simp only [bld, dB, bY, Value.cells, List.take_succ_cons, List.take_zero, List.drop_succ_cons, List.drop_zero, List.cons_append, List.nil_append, List.length_cons, List.length_nil, List.getElem?_cons_zero, List.getElem?_cons_succ, Option.map_some, List.append_nil, Nat.reduceAdd, Nat.reduceMul, Nat.zero_add, Nat.reduceLeDiff, and_self, if_true, List.toList_toArray, Nat.le_refl, Nat.zero_mul, Nat.one_mul]; first | done | rfl)) aA)); first | (exact rfl; exact rfl) | exact rfl) | (apply bC) | (apply aG) | (apply aH (t := 2); refine JL_o (by apply cA; exact bE hs rfl) rfl rfl ?_; rintro _ _ ⟨b2, rfl, hb2, hs, hE⟩) | (apply aH (t := 3); refine JL_o (by apply cA; exact bE hs rfl) rfl rfl ?_; rintro _ _ ⟨b3, rfl, hb3, hs, hE⟩) | (apply aH (t := 4); refine JL_o (by apply bA; exact aR hs) rfl rfl ?_; rintro _ _ ⟨b4, rfl, hb4, hs, hE⟩) | (apply bI; refine JL_u (by apply bB; exact aY hs rfl rfl rfl) rfl ?_; rintro _ _ ⟨hs, hF⟩) | (apply aT; refine bH rfl ob ?_))
    refine aZ Tryz.func38 rfl (.agg' hs rfl rfl (.tmp rfl .nil)) (.inl ⟨by decide, rfl, hs.frm.ext⟩)
  | true =>
  have he := hM hc
  obtain ⟨g, hcE, hA⟩ := check_iff.1 hc
  have eE : drE N E X0 = drC N X0 := by unfold drE; rw [hc]; rfl
  rw [eE]
  cases hi : isM N X0 with
  | false =>
    have e1 : drC N X0 = 2 := by unfold drC; rw [hi]; rfl
    rw [e1]
    repeat' (first | ((apply aV 46; refine JL_o (by exact aB en46 rfl (dP _ a a2 n c n2 c2 N E (h.st hs) (hE0.st hs) hn2 hz)) rfl rfl ?_; rintro _ _ ⟨rfl, hE⟩; rw [he]; have hs := hs.ext hE; (try simp only [zcc] at hs))) | ((apply aV 105; refine JL_o (by exact aB fI rfl (is_r _ a a2 n c n2 c2 N X0 (h.st hs) hx0)) rfl rfl ?_; rintro _ _ ⟨rfl, hE⟩; rw [hi]; have hs := hs.ext hE; (try simp only [zcc] at hs))) | (apply aU) | ((apply aK); (first | (apply aX; first | exact aW hs rfl rfl aA | exact aI hs rfl aA) | (apply aQ; exact aJ rfl aA) | (apply aF; exact aC rfl aA) | (apply aL; exact aM rfl rfl rfl aA) | (apply cF; exact cG rfl aA) | (apply cH; exact bR rfl gb rfl aA) | (apply dE; exact cW rfl (by (simp only [bld, dB, bY, Value.cells, List.take_succ_cons, List.take_zero, List.drop_succ_cons, List.drop_zero, List.cons_append, List.nil_append, List.length_cons, List.length_nil, List.getElem?_cons_zero, List.getElem?_cons_succ, Option.map_some, List.append_nil, Nat.reduceAdd, Nat.reduceMul, Nat.zero_add, Nat.reduceLeDiff, and_self, if_true, List.toList_toArray, Nat.le_refl, Nat.zero_mul, Nat.one_mul]; first | done | rfl)) aA)); first | (exact rfl; exact rfl) | exact rfl) | (apply bC) | (apply aG) | (apply bK) | (apply aH (t := 2); refine JL_o (by apply cA; exact bE hs rfl) rfl rfl ?_; rintro _ _ ⟨b2, rfl, hb2, hs, hE⟩) | (apply aH (t := 3); refine JL_o (by apply cA; exact bE hs rfl) rfl rfl ?_; rintro _ _ ⟨b3, rfl, hb3, hs, hE⟩) | (apply aH (t := 4); refine JL_o (by apply bA; exact aR hs) rfl rfl ?_; rintro _ _ ⟨b4, rfl, hb4, hs, hE⟩) | (apply bI; refine JL_u (by apply bB; exact aY hs rfl rfl rfl) rfl ?_; rintro _ _ ⟨hs, hF⟩) | (apply cM; (refine fB rfl gb rfl ?_)) | (apply aT; first | refine bL rfl ob ?_ | refine bQ rfl gb ?_))
    refine aZ Tryz.func38 rfl (.agg' hs rfl rfl (.tmp rfl .nil)) (.inl ⟨by decide, rfl, hs.frm.ext⟩)
  | true =>
  by_cases h1 : X0 = 1
  · have e1 : drC N X0 = 2 := by unfold drC; rw [hi, decide_eq_true h1]; rfl
    rw [e1]
    repeat' (first | ((apply aV 46; refine JL_o (by exact aB en46 rfl (dP _ a a2 n c n2 c2 N E (h.st hs) (hE0.st hs) hn2 hz)) rfl rfl ?_; rintro _ _ ⟨rfl, hE⟩; rw [he]; have hs := hs.ext hE; (try simp only [zcc] at hs))) | ((apply aV 105; refine JL_o (by exact aB fI rfl (is_r _ a a2 n c n2 c2 N X0 (h.st hs) hx0)) rfl rfl ?_; rintro _ _ ⟨rfl, hE⟩; rw [hi]; have hs := hs.ext hE; (try simp only [zcc] at hs))) | (apply aU) | ((first | (apply aK) | (apply bS; exact rfl; exact gb)); (first | (apply aX; first | exact aW hs rfl rfl aA | exact aI hs rfl aA) | (apply aQ; exact aJ rfl aA) | (apply aF; exact aC rfl aA) | (apply aL; exact aM rfl rfl rfl aA) | (apply cF; exact cG rfl aA) | (apply cH; exact bN rfl gb rfl aA) | (apply dE; exact cW rfl (by (simp only [bld, dB, bY, Value.cells, List.take_succ_cons, List.take_zero, List.drop_succ_cons, List.drop_zero, List.cons_append, List.nil_append, List.length_cons, List.length_nil, List.getElem?_cons_zero, List.getElem?_cons_succ, Option.map_some, List.append_nil, Nat.reduceAdd, Nat.reduceMul, Nat.zero_add, Nat.reduceLeDiff, and_self, if_true, List.toList_toArray, Nat.le_refl, Nat.zero_mul, Nat.one_mul]; first | done | rfl)) aA)); first | (exact rfl; exact rfl) | exact rfl) | (apply bC) | (apply aG) | (apply bK) | (apply aH (t := 2); refine JL_o (by apply cA; exact bE hs rfl) rfl rfl ?_; rintro _ _ ⟨b2, rfl, hb2, hs, hE⟩) | (apply aH (t := 3); refine JL_o (by apply cA; exact bE hs rfl) rfl rfl ?_; rintro _ _ ⟨b3, rfl, hb3, hs, hE⟩) | (apply aH (t := 4); refine JL_o (by apply bA; exact aR hs) rfl rfl ?_; rintro _ _ ⟨b4, rfl, hb4, hs, hE⟩) | (apply bI; refine JL_u (by apply bB; exact aY hs rfl rfl rfl) rfl ?_; rintro _ _ ⟨hs, hF⟩) | (apply aT; first | refine bH rfl ob ?_ | refine bL rfl ob ?_))
    refine aZ Tryz.func38 rfl (.agg' hs rfl rfl (.tmp rfl .nil)) (.inl ⟨by decide, rfl, hs.frm.ext⟩)
  have e1 : drC N X0 = 0 := by unfold drC; rw [hi, decide_eq_false h1]; rfl
  obtain ⟨p, x, rfl, hxp, hxu⟩ := isM_true.1 hi
  have e2 : drL N ((p : Int) + 1) = kJ N p := by unfold drL; rw [if_pos e1, show ((p : Int) + 1 - 1).toNat = p by omega]
  rw [e1, e2]
  have hpl := (List.getElem?_eq_some_iff.1 hxp).1
  obtain ⟨r0, hr0, hrel0⟩ := hm.get hxp
  obtain ⟨u1, mT, u3, u4⟩ := sX hrel0
  have hr0' : rs[((p : Int) + 1 - 1).toNat]? = some r0 := by rw [show ((p : Int) + 1 - 1).toNat = p by omega]; exact hr0
  have hbx : 0 ≤ (p : Int) + 1 - 1 ∧ (p : Int) + 1 - 1 < n := by omega
  have ip : ((p : Int) + 1 - 1).toNat = p := by omega
  obtain ⟨b0, o0, rfl⟩ := hr.sl.addr (by omega)
  have hdr := uY hc hxp hxu
  repeat' (first | ((apply aV 46; refine JL_o (by exact aB en46 rfl (dP _ (some ⟨b0, o0, none⟩) a2 n c n2 c2 N E (h.st hs) (hE0.st hs) hn2 hz)) rfl rfl ?_; rintro _ _ ⟨rfl, hE⟩; rw [he]; have hs := hs.ext hE; (try simp only [zcc] at hs))) | ((apply aV 105; refine JL_o (by exact aB fI rfl (is_r _ (some ⟨b0, o0, none⟩) a2 n c n2 c2 N ((p : Int) + 1) (h.st hs) hx0)) rfl rfl ?_; rintro _ _ ⟨rfl, hE⟩; rw [hi]; have hs := hs.ext hE; (try simp only [zcc] at hs))) | ((apply ax_c; apply eH 106; exact rfl; (intro W X hN hs; exact aB en106 rfl (drop_ok _ a2 n2 c2 E r0.2.1.1 r0.2.1.2.1 r0.2.1.2.2 x.2.1 (hE0.st hs) hn2 (mT.st hs) hdr)); (rintro _ _ _ _ ⟨i0, e0, rs1, a4, c4, ⟨he0, he01, he0t⟩, rfl, hf⟩; first | exact hE | exact Fresh.ext hf); rintro W X _ _ hN hs ⟨i0, e0, rs1, a4, c4, ⟨he0, he01, he0t⟩, rfl, hf⟩; have hs := hs.fresh hf; (try simp only [zcc] at hs); refine JX.at hs ?_)) | ((apply aV 107; refine JL_o (by exact aB zU rfl (tE _ (some ⟨b0, o0, none⟩) a4 n c n2 c4 N (E.set i0 gone) (h.st hs) (dI hs zmm zmm) (by omega) hn2 hz (kN (nT hcE he0 he01)))) rfl rfl ?_; rintro _ _ ⟨qs, rs', a', a2', ⟨hqm, hqo⟩, rfl, hf⟩; have hs := hs.fresh hf; simp only [zcc] at hs; obtain ⟨b, o, rfl⟩ := (hs.row a' n n).some (by omega); have hql : qs.length = n := (by have := congrArg List.length hqm; rw [List.length_map] at this; omega); have hset : bY (encL cNd (qs.map rawN)) (((p : Int) + 1 - 1).toNat * 4) (cNd r00) = encL cNd ((qs.map rawN).set p r00) := (by rw [ip]; exact rU _ p r00 (by rw [List.length_map]; omega)); (try simp only [zcc] at hs))) | ((apply ax_c; apply JX_cu; exact rfl; (intro W X hN hs; exact jR (by apply bB; exact aY hs rfl rfl rfl) (St.zfoot (A := [_]) (C0 := [_, _, _]) (show St _ _ _ ([_] ++ [_, _, _]) from hs.sel [1, 4, 5, 6] (by decide)) hZZ)); (rintro _ _ _ _ ⟨⟨_, hF⟩, hzz⟩; exact Frm.rlZ hF (fun k hk => hzz k ⟨_, List.mem_singleton_self _, by rw [show k = b7 from hk]; exact gR _ _⟩)); exact rfl; rintro W X _ _ hN hs0 ⟨⟨hs, hF⟩, hzz⟩; refine JX.at hs ?_)) | ((apply bI; refine JL_u (by apply bB; exact dQ (b := b) (o := o) (off := ((p : Int) + 1 - 1).toNat * 4) (n := n) (c := n) (vs := cNd r00) hs rfl rfl rfl rfl (by simp [Value.oneCell']) (by show ((p : Int) + 1 - 1).toNat * 4 + 4 ≤ n * 4; omega)) rfl ?_; rintro _ _ ⟨hs, hF⟩; rw [hset] at hs)) | (apply aU) | ((first | (apply aK) | (apply bS; exact rfl; exact gb) | (apply qE; exact rfl; intro W hs)); (first | (apply aX; first | exact aW hs rfl rfl aA | exact aI hs rfl aA | exact cL (i := ((p : Int) + 1 - 1).toNat) (j := 1) (hr.st hs) hr0' rfl rfl rfl aA) | (apply aQ; exact aJ rfl aA) | (apply aF; exact aC rfl aA) | (apply aS; first | exact aN rfl rfl aA | exact bJ rfl rfl aA) | (apply eW; exact dS rfl rfl (by omega) aA) | (apply aL; exact aM rfl rfl rfl aA) | (apply cF; exact cG rfl aA) | (apply cH; exact bN rfl gb rfl aA) | (apply bO; exact bZ rfl aA) | (apply cD; exact bU rfl rfl aA) | (apply eX; exact gS rfl aA) | (apply aP; exact aO rfl rfl (by omega) (by omega) aA) | (apply dE; exact cW rfl (by (simp only [bld, dB, bY, Value.cells, List.take_succ_cons, List.take_zero, List.drop_succ_cons, List.drop_zero, List.cons_append, List.nil_append, List.length_cons, List.length_nil, List.getElem?_cons_zero, List.getElem?_cons_succ, Option.map_some, List.append_nil, Nat.reduceAdd, Nat.reduceMul, Nat.zero_add, Nat.reduceLeDiff, and_self, if_true, List.toList_toArray, Nat.le_refl, Nat.zero_mul, Nat.one_mul]; first | done | rfl)) aA)); first | (exact rfl; exact rfl) | exact rfl) | (apply bC) | (apply aG) | (apply bD) | (apply bK) | (apply aH (t := 2); refine JL_o (by apply cA; exact bE hs rfl) rfl rfl ?_; rintro _ _ ⟨b2, rfl, hb2, hs, hE⟩) | (apply aH (t := 3); refine JL_o (by apply cA; exact bE hs rfl) rfl rfl ?_; rintro _ _ ⟨b3, rfl, hb3, hs, hE⟩) | (apply aH (t := 4); refine JL_o (by apply bA; exact aR hs) rfl rfl ?_; rintro _ _ ⟨b4, rfl, hb4, hs, hE⟩) | (apply ax_n; refine JX_n (t := 7) rfl (fun W L hs => by apply bA; exact aR hs) rfl ?_) | (apply ax_k; (first | refine JX_k (t := 7) ?_ | refine jE (t := 7) rfl ?_); intro b7) | (apply bI; refine JL_u (by apply bB; exact aY hs rfl rfl rfl) rfl ?_; rintro _ _ ⟨hs, hF⟩) | (apply aT; refine bL rfl ob ?_) | (apply cZ; (refine aAu (id := 6) [0, 1, 0, 4, 0, 16, 60, 124, 252, 511, 1023, 2047, 2047, 0, 12287, 32767] [(0, 0), (1, 0), (2, 0), (3, 0), (4, 0), (5, 0), (6, 0), (7, 0), (8, 0), (13, 2), (9, 1), (10, 0), (11, 0), (12, 0), (13, 3), (14, 1), (15, 0)] [] [] [_, _, _] (show St _ _ _ [_, _, _] from hs.sel [0, 1, 2] (by decide)) rfl eQ (by kernel_rfl) (by kernel_rfl) (by kernel_rfl) (by kernel_rfl) (by kernel_rfl) ?_; intro ZZ hZZ)) | (refine cX (fun W hs => ?_)) | (apply dL))
  have hs := hs.zeroN false
  obtain ⟨q0, hq0⟩ : ∃ q0, qs[p]? = some q0 := ⟨_, List.getElem?_eq_getElem (by omega)⟩
  have hs := St.replN (L := [_, _, _, _, _, _]) hq0 (hs.sel [0, 2, 1, 3, 4, 8, 9, 10] (by decide))
  obtain ⟨qs1, hqs1⟩ : ∃ l, l = qs.set p (false, (z0, []), (z0, []), (z0, [])) := ⟨_, rfl⟩
  have hqm1 : qs1.map iX = N.set p n0 := by rw [hqs1, List.map_set, hqm]
  have hqr1 : qs1.map rawN = (qs.map rawN).set p r00 := by rw [hqs1, List.map_set]
  have hqo1 : ∀ q ∈ qs1, okN q := by rw [hqs1]; exact jX hqo (vR false)
  rw [← hqs1, ← hqr1] at hs
  obtain ⟨N1, hN1⟩ : ∃ l, l = N.set p n0 := ⟨_, rfl⟩
  rw [← hN1] at hqm1
  have hN1l : N1.length = n := by rw [hN1, List.length_set, hl]
  have hz1 : szN N1 := by
    rw [hN1]
    intro u hu
    rcases List.mem_or_eq_of_mem_set hu with e | e
    · exact hz u e
    · rw [e]; exact ⟨by show 0 ≤ 1000000; omega, by show 0 ≤ 1000000; omega, by show 0 ≤ 1000000; omega⟩
  refine dK (α := Nat × List QN) [(2, _), (4, _), (9, _), (57, _)] (fun g => [(58, .int .i64 g.1)]) (fun g w' => St w NoF w' [OwnN g.2, TabN (some ⟨b, o, none⟩) n n (g.2.map rawN), dN a2' n2 n2 rs', Own rs' (E.set i0 gone), Blk b4 (.cells #[.slice none 0 0, .slice none 0 0] 57 (0, 0)), Blk b3 (.cells #[.int .i64 ((p : Int) + 1)] 3 (0, 0)), Blk b2 (.cells #[.slice (some ⟨b, o, none⟩) n n, .slice a2' n2 n2] 57 (0, 0))] ∧ (g.2.map iX = (N1.take g.1).map (vA ((p : Int) + 1)) ++ N1.drop g.1 ∧ ∀ q ∈ g.2, okN q) ∧ g.1 ≤ n) (fun g => n - g.1) (0, qs1) ⟨hs, ⟨hqm1, hqo1⟩, Nat.zero_le _⟩ zss ?_
  rintro ⟨i, qi⟩ w2 ⟨hs1, ⟨hqmi, hqoi⟩, hin⟩ ih
  dsimp only at hs1 hqmi hqoi hin ih ⊢
  have hs : St w NoF w2 [_, _, _, _, _, _, _] := hs1
  by_cases hlt : i < n
  · obtain ⟨y, hy⟩ : ∃ y, N1[i]? = some y := ⟨_, List.getElem?_eq_getElem (by omega)⟩
    obtain ⟨z1, z2, z3⟩ := hz1 y (List.mem_of_getElem? hy)
    have hgi : ((N1.take i).map (vA ((p : Int) + 1)) ++ N1.drop i)[i]? = some y := by
      rw [List.getElem?_append_right (by rw [List.length_map, List.length_take]; omega), List.length_map, List.length_take, List.getElem?_drop, show i + (i - min i N1.length) = i by omega]; exact hy
    obtain ⟨q, hq, hqy⟩ := sY hqmi hgi
    obtain ⟨y1, y2, y3, y4⟩ := rR hqy
    obtain ⟨⟨o1, o2⟩, ⟨o3, o4⟩, ⟨o5, o6⟩⟩ := hqoi q (List.mem_of_getElem? hq)
    have hql1 := (List.getElem?_eq_some_iff.1 hq).1
    have hraw : (qi.map rawN)[i]? = some (rawN q) := by rw [List.getElem?_map, hq]; rfl
    have hc2 : (encL cNd (qi.map rawN))[i * 4 + 2]? = some (.slice q.2.2.1.1.1 q.2.2.1.1.2.1 q.2.2.1.1.2.2) := by
      rw [show (encL cNd (qi.map rawN))[i * 4 + 2]? = (cNd (rawN q))[2]? from fM (d := dRNd) (qi.map rawN) i 2 (rawN q) hraw (by show 2 < 4; omega)]; rfl
    have hc3 : (encL cNd (qi.map rawN))[i * 4 + 3]? = some (.slice q.2.2.2.1.1 q.2.2.2.1.2.1 q.2.2.2.1.2.2) := by
      rw [show (encL cNd (qi.map rawN))[i * 4 + 3]? = (cNd (rawN q))[3]? from fM (d := dRNd) (qi.map rawN) i 3 (rawN q) hraw (by show 3 < 4; omega)]; rfl
    have hg24 : ((qi.map rawN).set i (q.1, q.2.1.1, (q.2.2.1.1.1, (fJ q.2.2.1.2 ((p : Int) + 1)).length, q.2.2.1.1.2.2), q.2.2.2.1))[i]? = some (q.1, q.2.1.1, (q.2.2.1.1.1, (fJ q.2.2.1.2 ((p : Int) + 1)).length, q.2.2.1.1.2.2), q.2.2.2.1) := List.getElem?_set_self (by rw [List.length_map]; exact hql1)
    have hset24 : bY (encL cNd (qi.map rawN)) (i * 4 + 2) [.slice q.2.2.1.1.1 (fJ q.2.2.1.2 ((p : Int) + 1)).length q.2.2.1.1.2.2] = encL cNd ((qi.map rawN).set i (q.1, q.2.1.1, (q.2.2.1.1.1, (fJ q.2.2.1.2 ((p : Int) + 1)).length, q.2.2.1.1.2.2), q.2.2.2.1)) := pO _ i (rawN q) _ _ _ hraw
    have hset27 : bY (encL cNd ((qi.map rawN).set i (q.1, q.2.1.1, (q.2.2.1.1.1, (fJ q.2.2.1.2 ((p : Int) + 1)).length, q.2.2.1.1.2.2), q.2.2.2.1))) (i * 4 + 3) [.slice q.2.2.2.1.1 (fJ q.2.2.2.2 ((p : Int) + 1)).length q.2.2.2.1.2.2] = encL cNd ((qi.map rawN).set i (q.1, q.2.1.1, (q.2.2.1.1.1, (fJ q.2.2.1.2 ((p : Int) + 1)).length, q.2.2.1.1.2.2), (q.2.2.2.1.1, (fJ q.2.2.2.2 ((p : Int) + 1)).length, q.2.2.2.1.2.2))) := (pN _ i _ _ _ _ hg24).trans (by rw [List.set_set])
    obtain ⟨qn, hqn⟩ : ∃ qn : QN, qn = (q.1, q.2.1, ((q.2.2.1.1.1, (fJ q.2.2.1.2 ((p : Int) + 1)).length, q.2.2.1.1.2.2), fJ q.2.2.1.2 ((p : Int) + 1)), ((q.2.2.2.1.1, (fJ q.2.2.2.2 ((p : Int) + 1)).length, q.2.2.2.1.2.2), fJ q.2.2.2.2 ((p : Int) + 1))) := ⟨_, rfl⟩
    have hqno : okN qn := by rw [hqn]; exact ⟨⟨o1, o2⟩, ⟨rfl, fun s hs => o4 s (List.mem_filter.1 hs).1⟩, ⟨rfl, fun s hs => o6 s (List.mem_filter.1 hs).1⟩⟩
    have hqnx : iX qn = vA ((p : Int) + 1) y := by rw [hqn]; exact nm_eq.2 ⟨y1, y2, by show fJ q.2.2.1.2 _ = fJ y.2.2.1 _; rw [y3], by show fJ q.2.2.2.2 _ = fJ y.2.2.2 _; rw [y4]⟩
    have hqnr : (qi.set i qn).map rawN = (qi.map rawN).set i (q.1, q.2.1.1, (q.2.2.1.1.1, (fJ q.2.2.1.2 ((p : Int) + 1)).length, q.2.2.1.1.2.2), (q.2.2.2.1.1, (fJ q.2.2.2.2 ((p : Int) + 1)).length, q.2.2.2.1.2.2)) := by rw [List.map_set, hqn]
    have hqnm : (qi.set i qn).map iX = (N1.take (i + 1)).map (vA ((p : Int) + 1)) ++ N1.drop (i + 1) := by
      rw [List.map_set, hqmi, hqnx, oZ _ N1 i _ (by rw [List.length_map, List.length_take]; omega) (by omega), List.take_add_one, hy, List.map_append]; rfl
    have hn2' : q.2.2.1.1.2.1 ≤ 4000000 := by rw [o3, y3]; omega
    have hn3' : q.2.2.2.1.2.1 ≤ 4000000 := by rw [o5, y4]; omega
    repeat' (first | ((apply wE 16; refine hold ?_)) | (apply aU) | ((apply aK); (first | (apply aQ; exact aJ rfl aA) | (apply aF; exact aC rfl aA) | (apply aL; exact aM rfl rfl rfl aA)); first | (exact rfl; exact rfl) | exact rfl) | (apply bC) | (apply aG) | (apply bD) | (apply bK) | (apply aT; refine bH rfl ob ?_))
    refine unhold ?_
    have hs := St.unpackN (St.takeN hq (hs.sel [0, 1, 2, 3, 4, 5, 6] (by decide)))
    have hs : St w NoF _ ([row2 q, row3 q, TabN (some ⟨b, o, none⟩) n n (qi.map rawN)] ++ [row1 q, OwnN (qi.take i ++ qi.drop (i + 1)), dN a2' n2 n2 rs', Own rs' (E.set i0 gone), Blk b4 (.cells #[.slice none 0 0, .slice none 0 0] 57 (0, 0)), Blk b3 (.cells #[.int .i64 ((p : Int) + 1)] 3 (0, 0)), Blk b2 (.cells #[.slice (some ⟨b, o, none⟩) n n, .slice a2' n2 n2] 57 (0, 0))]) := hs.sel [1, 2, 4, 0, 3, 5, 6, 7, 8, 9] (by decide)
    obtain ⟨ZZ, hZZ⟩ : ∃ Z : Nat → Prop, ∀ k, Z k ↔ ((NoF k ∨ w.heap.size ≤ k) ∧ ∀ c ∈ [row1 q, OwnN (qi.take i ++ qi.drop (i + 1)), dN a2' n2 n2 rs', Own rs' (E.set i0 gone), Blk b4 (.cells #[.slice none 0 0, .slice none 0 0] 57 (0, 0)), Blk b3 (.cells #[.int .i64 ((p : Int) + 1)] 3 (0, 0)), Blk b2 (.cells #[.slice (some ⟨b, o, none⟩) n n, .slice a2' n2 n2] 57 (0, 0))], ¬ c.foot k) := ⟨_, fun _ => Iff.rfl⟩
    refine J_draw (id := 16) ZZ [0, 1, 0, 0, 8, 0, 0, 64, 0, 448, 960, 1984, 0, 8128, 0, 16384, 0, 114688, 245760, 507904, 0, 2097088, 4194247, 8388551, 16777159, 33554431, 67108863, 134217727] [(0, false), (1, false), (2, false), (3, false), (4, false), (5, false), (6, false), (7, false), (8, false), (9, false), (10, false), (12, false), (14, false), (15, false), (16, false), (17, false), (18, false), (20, false), (11, false), (13, false), (19, false), (21, false), (22, false), (23, false), (24, false), (25, false), (26, false)] [27] eQ (by kernel_rfl) (by kernel_rfl) ?_
    intro _ hE _
    have hs : St w NoF _ ([row2 q, row3 q, TabN (some ⟨b, o, none⟩) n n (qi.map rawN)] ++ [row1 q, OwnN (qi.take i ++ qi.drop (i + 1)), dN a2' n2 n2 rs', Own rs' (E.set i0 gone), Blk b4 (.cells #[.slice none 0 0, .slice none 0 0] 57 (0, 0)), Blk b3 (.cells #[.int .i64 ((p : Int) + 1)] 3 (0, 0)), Blk b2 (.cells #[.slice (some ⟨b, o, none⟩) n n, .slice a2' n2 n2] 57 (0, 0))]) := hs.ext hE
    repeat' (first | (apply nW; exact rfl; (intro W hRl; have hs := St.rlV (A := [_, _, _]) (C0 := [_, _, _, _, _, _, _]) hs hZZ hRl; first | (apply aQ; exact aJ rfl aA) | (apply aS; first | exact aN rfl rfl aA | exact bJ rfl rfl aA) | (apply aP; exact aO rfl rfl (by omega) (by omega) aA) | (apply aX; exact aW hs rfl rfl aA)); exact rfl))
    refine jB [11, 19] rfl (by kernel_rfl) ⟨?_, ?_, trivial⟩
    · have hsl : St w NoF _ [_, _, _, _, _, _, _, _, _, _] := hs
      refine lX (t := 72) [(13, false), (19, false), (21, false), (22, false), (23, false), (24, false), (25, false), (26, false)] (by kernel_rfl) (by kernel_rfl) (by kernel_rfl) (by kernel_rfl) rfl rfl (by apply aX; exact gW (b := b) (o := o) (off := i * 4 + 2) (n := n) (c := n) hsl rfl hc2 aA) (fun _ _ h9 => by rw [(mK h9).2]; exact Rl.refl _) ?_
      intro _ _ h9
      obtain ⟨rfl, rfl⟩ := mK h9
      clear hsl
      refine jB [13, 19] rfl (by kernel_rfl) ⟨?_, ?_, trivial⟩
      · have hz3 := St.zfoot (A := [_, _, _]) (C0 := [_, _, _, _, _, _, _]) hs hZZ
        have hb3 := iT (hs.all (Blk b3 (.cells #[.int .i64 ((p : Int) + 1)] 3 (0, 0))) (List.mem_append_right _ (.tail _ (.tail _ (.tail _ (.tail _ (.tail _ (.head _))))))))
        have hsc : St w NoF _ ([row2 q] ++ [_, _, _, _, _, _, _, _, _]) := hs
        have hne3 := lJ (b := b3) (o := .cells #[.int .i64 ((p : Int) + 1)] 3 (0, 0)) hsc zmm
        refine lX (t := 74) [(19, false), (21, false), (22, false), (23, false), (24, false), (25, false), (26, false)] (by kernel_rfl) (by kernel_rfl) (by kernel_rfl) (by kernel_rfl) rfl rfl (jR (aB xH rfl (nQ _ q.2.2.1.1.1 q.2.2.1.1.2.1 q.2.2.1.1.2.2 q.2.2.1.2 (St.held (A := [_]) hsc) o4 hn2' 108 #[ptr b3] xI (fun x => decide (x.2 = (p : Int) + 1)) (fun W hW x hx => mE W x _ b3 ((hW b3 (Array.getElem?_eq_some_iff.1 hb3).1 (fun hf => hne3 b3 ⟨_, List.mem_singleton_self _, iM hf⟩ rfl)).trans hb3)))) (fun k hk => hz3 k ⟨_, .head _, iM (jU hk)⟩)) (by rintro _ _ ⟨⟨rfl, ht⟩, hzz⟩; exact Frm.rlZ ht.frm hzz) ?_
        rintro _ _ ⟨⟨rfl, ht⟩, hzz⟩
        have hsd := St.take (A := [_]) (A' := [_]) (L := [_, _, _, _, _, _, _, _, _]) hsc ht
        have hs : St w NoF _ ([_, _, _] ++ [_, _, _, _, _, _, _]) := hsd
        clear hz3 hb3 hne3 hsc hsd ht hzz
        refine jB [19] rfl (by kernel_rfl) ⟨?_, trivial⟩
        have hsl : St w NoF _ [_, _, _, _, _, _, _, _, _, _] := hs
        refine lX (t := 80) [(21, false), (22, false), (23, false), (24, false), (25, false), (26, false)] (by kernel_rfl) (by kernel_rfl) (by kernel_rfl) (by kernel_rfl) rfl rfl (by apply aX; exact gW (b := b) (o := o) (off := i * 4 + 3) (n := n) (c := n) hsl rfl hc3 aA) (fun _ _ h9 => by rw [(mK h9).2]; exact Rl.refl _) ?_
        intro _ _ h9
        obtain ⟨rfl, rfl⟩ := mK h9
        clear hsl
        refine jB [21] rfl (by kernel_rfl) ⟨?_, trivial⟩
        have hz3 := St.zfoot (A := [_, _, _]) (C0 := [_, _, _, _, _, _, _]) hs hZZ
        have hb3 := iT (hs.all (Blk b3 (.cells #[.int .i64 ((p : Int) + 1)] 3 (0, 0))) (List.mem_append_right _ (.tail _ (.tail _ (.tail _ (.tail _ (.tail _ (.head _))))))))
        have hsc : St w NoF _ ([row3 q] ++ [_, _, _, _, _, _, _, _, _]) := (show St w NoF _ [_, _, _, _, _, _, _, _, _, _] from hs).sel [1, 0, 2, 3, 4, 5, 6, 7, 8, 9] (by decide)
        have hne3 := lJ (b := b3) (o := .cells #[.int .i64 ((p : Int) + 1)] 3 (0, 0)) hsc zmm
        refine lX (t := 82) [(22, false), (23, false), (24, false), (25, false), (26, false)] (by kernel_rfl) (by kernel_rfl) (by kernel_rfl) (by kernel_rfl) rfl rfl (jR (aB xH rfl (nQ _ q.2.2.2.1.1 q.2.2.2.1.2.1 q.2.2.2.1.2.2 q.2.2.2.2 (St.held (A := [_]) hsc) o6 hn3' 108 #[ptr b3] xI (fun x => decide (x.2 = (p : Int) + 1)) (fun W hW x hx => mE W x _ b3 ((hW b3 (Array.getElem?_eq_some_iff.1 hb3).1 (fun hf => hne3 b3 ⟨_, List.mem_singleton_self _, iM hf⟩ rfl)).trans hb3)))) (fun k hk => hz3 k ⟨_, .tail _ (.head _), iM (jU hk)⟩)) (by rintro _ _ ⟨⟨rfl, ht⟩, hzz⟩; exact Frm.rlZ ht.frm hzz) ?_
        rintro _ _ ⟨⟨rfl, ht⟩, hzz⟩
        have hsd := St.take (A := [_]) (A' := [_]) (L := [_, _, _, _, _, _, _, _, _]) hsc ht
        have hs : St w NoF _ ([_, _, _] ++ [_, _, _, _, _, _, _]) := (show St w NoF _ [_, _, _, _, _, _, _, _, _, _] from hsd).sel [1, 0, 2, 3, 4, 5, 6, 7, 8, 9] (by decide)
        clear hz3 hb3 hne3 hsc hsd ht hzz
        (apply nW; exact rfl; (intro W hRl; have hs := St.rlV (A := [_, _, _]) (C0 := [_, _, _, _, _, _, _]) hs hZZ hRl; first | (apply aS; first | exact aN rfl rfl aA | exact bJ rfl rfl aA) | (apply aP; exact aO rfl rfl (by omega) (by omega) aA)); exact rfl)
        (apply nW; exact rfl; (intro W hRl; have hs := St.rlV (A := [_, _, _]) (C0 := [_, _, _, _, _, _, _]) hs hZZ hRl; first | (apply aS; first | exact aN rfl rfl aA | exact bJ rfl rfl aA) | (apply aP; exact aO rfl rfl (by omega) (by omega) aA)); exact rfl)
        refine jB [24] rfl (by kernel_rfl) ⟨?_, trivial⟩
        have hz3 := St.zfoot (A := [_, _, _]) (C0 := [_, _, _, _, _, _, _]) hs hZZ
        have hsl : St w NoF _ [_, _, _, _, _, _, _, _, _, _] := hs
        refine aAx [(25, false), (26, false)] (by kernel_rfl) (by kernel_rfl) (by kernel_rfl) (by kernel_rfl) rfl rfl (jR (by apply bB; exact dQ (b := b) (o := o) (off := i * 4 + 2) (n := n) (c := n) (vs := [.slice q.2.2.1.1.1 (fJ q.2.2.1.2 ((p : Int) + 1)).length q.2.2.1.1.2.2]) hsl rfl rfl rfl rfl (by simp [Value.oneCell']) (by show i * 4 + 2 + 1 ≤ n * 4; omega)) (fun k hk => hz3 k ⟨_, .tail _ (.tail _ (.head _)), iM hk⟩)) (by rintro _ _ ⟨⟨_, hF⟩, hzz⟩; exact Frm.rlZ hF hzz) ?_
        rintro _ _ ⟨⟨hs, hF⟩, hzz⟩
        rw [hset24] at hs
        have hs : St w NoF _ ([_, _, _] ++ [_, _, _, _, _, _, _]) := hs
        clear hz3 hsl hF hzz
        (apply nW; exact rfl; (intro W hRl; have hs := St.rlV (A := [_, _, _]) (C0 := [_, _, _, _, _, _, _]) hs hZZ hRl; first | (apply aS; first | exact aN rfl rfl aA | exact bJ rfl rfl aA) | (apply aP; exact aO rfl rfl (by omega) (by omega) aA)); exact rfl)
        (apply nW; exact rfl; (intro W hRl; have hs := St.rlV (A := [_, _, _]) (C0 := [_, _, _, _, _, _, _]) hs hZZ hRl; first | (apply aS; first | exact aN rfl rfl aA | exact bJ rfl rfl aA) | (apply aP; exact aO rfl rfl (by omega) (by omega) aA)); exact rfl)
        (apply fE; case' hos => (simp only [List.map_cons, List.map_nil, List.getElem?_toArray, List.getElem?_cons_succ, List.getElem?_cons_zero]; repeat' (first | exact gI | apply fD)))
        apply bI
        have hsl : St w NoF _ [_, _, _, _, _, _, _, _, _, _] := hs
        refine JL_u (by apply bB; exact dQ (b := b) (o := o) (off := i * 4 + 3) (n := n) (c := n) (vs := [.slice q.2.2.2.1.1 (fJ q.2.2.2.2 ((p : Int) + 1)).length q.2.2.2.1.2.2]) hsl rfl rfl rfl rfl (by simp [Value.oneCell']) (by show i * 4 + 3 + 1 ≤ n * 4; omega)) rfl ?_
        rintro _ _ ⟨hs, hF⟩
        rw [hset27] at hs
        repeat' (first | (apply aU) | ((apply aK); (first | (apply aQ; exact aJ rfl aA) | (apply cO; exact bT rfl rfl (by omega) (by first | (simp only [Int.reduceAdd]; exact rfl) | exact rfl) aA)); first | (exact rfl; exact rfl) | exact rfl) | (apply aG) | (apply bP))
        have hs := St.packN (q := (q.1, q.2.1, ((q.2.2.1.1.1, (fJ q.2.2.1.2 ((p : Int) + 1)).length, q.2.2.1.1.2.2), fJ q.2.2.1.2 ((p : Int) + 1)), ((q.2.2.2.1.1, (fJ q.2.2.2.2 ((p : Int) + 1)).length, q.2.2.2.1.2.2), fJ q.2.2.2.2 ((p : Int) + 1)))) (L := [OwnN (qi.take i ++ qi.drop (i + 1)), _, _, _, _, _, _]) (hs.sel [3, 0, 1, 4, 2, 5, 6, 7, 8, 9] (by decide))
        rw [← hqn] at hs
        have hs := St.putN hql1 hs
        refine ih (i + 1, qi.set i qn) _ _ ⟨by dsimp only; rw [hqnr]; exact hs, ⟨hqnm, jX hqoi hqno⟩, by dsimp only; omega⟩ (by dsimp only; omega) zss
      · have hsl : St w NoF _ [_, _, _, _, _, _, _, _, _, _] := hs
        refine lX (t := 80) [(13, false), (21, false), (22, false), (23, false), (24, false), (25, false), (26, false)] (by kernel_rfl) (by kernel_rfl) (by kernel_rfl) (by kernel_rfl) rfl rfl (by apply aX; exact gW (b := b) (o := o) (off := i * 4 + 3) (n := n) (c := n) hsl rfl hc3 aA) (fun _ _ h9 => by rw [(mK h9).2]; exact Rl.refl _) ?_
        intro _ _ h9
        obtain ⟨rfl, rfl⟩ := mK h9
        clear hsl
        refine jB [13] rfl (by kernel_rfl) ⟨?_, trivial⟩
        have hz3 := St.zfoot (A := [_, _, _]) (C0 := [_, _, _, _, _, _, _]) hs hZZ
        have hb3 := iT (hs.all (Blk b3 (.cells #[.int .i64 ((p : Int) + 1)] 3 (0, 0))) (List.mem_append_right _ (.tail _ (.tail _ (.tail _ (.tail _ (.tail _ (.head _))))))))
        have hsc : St w NoF _ ([row2 q] ++ [_, _, _, _, _, _, _, _, _]) := hs
        have hne3 := lJ (b := b3) (o := .cells #[.int .i64 ((p : Int) + 1)] 3 (0, 0)) hsc zmm
        refine lX (t := 74) [(21, false), (22, false), (23, false), (24, false), (25, false), (26, false)] (by kernel_rfl) (by kernel_rfl) (by kernel_rfl) (by kernel_rfl) rfl rfl (jR (aB xH rfl (nQ _ q.2.2.1.1.1 q.2.2.1.1.2.1 q.2.2.1.1.2.2 q.2.2.1.2 (St.held (A := [_]) hsc) o4 hn2' 108 #[ptr b3] xI (fun x => decide (x.2 = (p : Int) + 1)) (fun W hW x hx => mE W x _ b3 ((hW b3 (Array.getElem?_eq_some_iff.1 hb3).1 (fun hf => hne3 b3 ⟨_, List.mem_singleton_self _, iM hf⟩ rfl)).trans hb3)))) (fun k hk => hz3 k ⟨_, .head _, iM (jU hk)⟩)) (by rintro _ _ ⟨⟨rfl, ht⟩, hzz⟩; exact Frm.rlZ ht.frm hzz) ?_
        rintro _ _ ⟨⟨rfl, ht⟩, hzz⟩
        have hsd := St.take (A := [_]) (A' := [_]) (L := [_, _, _, _, _, _, _, _, _]) hsc ht
        have hs : St w NoF _ ([_, _, _] ++ [_, _, _, _, _, _, _]) := hsd
        clear hz3 hb3 hne3 hsc hsd ht hzz
        refine jB [21] rfl (by kernel_rfl) ⟨?_, trivial⟩
        have hz3 := St.zfoot (A := [_, _, _]) (C0 := [_, _, _, _, _, _, _]) hs hZZ
        have hb3 := iT (hs.all (Blk b3 (.cells #[.int .i64 ((p : Int) + 1)] 3 (0, 0))) (List.mem_append_right _ (.tail _ (.tail _ (.tail _ (.tail _ (.tail _ (.head _))))))))
        have hsc : St w NoF _ ([row3 q] ++ [_, _, _, _, _, _, _, _, _]) := (show St w NoF _ [_, _, _, _, _, _, _, _, _, _] from hs).sel [1, 0, 2, 3, 4, 5, 6, 7, 8, 9] (by decide)
        have hne3 := lJ (b := b3) (o := .cells #[.int .i64 ((p : Int) + 1)] 3 (0, 0)) hsc zmm
        refine lX (t := 82) [(22, false), (23, false), (24, false), (25, false), (26, false)] (by kernel_rfl) (by kernel_rfl) (by kernel_rfl) (by kernel_rfl) rfl rfl (jR (aB xH rfl (nQ _ q.2.2.2.1.1 q.2.2.2.1.2.1 q.2.2.2.1.2.2 q.2.2.2.2 (St.held (A := [_]) hsc) o6 hn3' 108 #[ptr b3] xI (fun x => decide (x.2 = (p : Int) + 1)) (fun W hW x hx => mE W x _ b3 ((hW b3 (Array.getElem?_eq_some_iff.1 hb3).1 (fun hf => hne3 b3 ⟨_, List.mem_singleton_self _, iM hf⟩ rfl)).trans hb3)))) (fun k hk => hz3 k ⟨_, .tail _ (.head _), iM (jU hk)⟩)) (by rintro _ _ ⟨⟨rfl, ht⟩, hzz⟩; exact Frm.rlZ ht.frm hzz) ?_
        rintro _ _ ⟨⟨rfl, ht⟩, hzz⟩
        have hsd := St.take (A := [_]) (A' := [_]) (L := [_, _, _, _, _, _, _, _, _]) hsc ht
        have hs : St w NoF _ ([_, _, _] ++ [_, _, _, _, _, _, _]) := (show St w NoF _ [_, _, _, _, _, _, _, _, _, _] from hsd).sel [1, 0, 2, 3, 4, 5, 6, 7, 8, 9] (by decide)
        clear hz3 hb3 hne3 hsc hsd ht hzz
        (apply nW; exact rfl; (intro W hRl; have hs := St.rlV (A := [_, _, _]) (C0 := [_, _, _, _, _, _, _]) hs hZZ hRl; first | (apply aS; first | exact aN rfl rfl aA | exact bJ rfl rfl aA) | (apply aP; exact aO rfl rfl (by omega) (by omega) aA)); exact rfl)
        (apply nW; exact rfl; (intro W hRl; have hs := St.rlV (A := [_, _, _]) (C0 := [_, _, _, _, _, _, _]) hs hZZ hRl; first | (apply aS; first | exact aN rfl rfl aA | exact bJ rfl rfl aA) | (apply aP; exact aO rfl rfl (by omega) (by omega) aA)); exact rfl)
        refine jB [24] rfl (by kernel_rfl) ⟨?_, trivial⟩
        have hz3 := St.zfoot (A := [_, _, _]) (C0 := [_, _, _, _, _, _, _]) hs hZZ
        have hsl : St w NoF _ [_, _, _, _, _, _, _, _, _, _] := hs
        refine aAx [(25, false), (26, false)] (by kernel_rfl) (by kernel_rfl) (by kernel_rfl) (by kernel_rfl) rfl rfl (jR (by apply bB; exact dQ (b := b) (o := o) (off := i * 4 + 2) (n := n) (c := n) (vs := [.slice q.2.2.1.1.1 (fJ q.2.2.1.2 ((p : Int) + 1)).length q.2.2.1.1.2.2]) hsl rfl rfl rfl rfl (by simp [Value.oneCell']) (by show i * 4 + 2 + 1 ≤ n * 4; omega)) (fun k hk => hz3 k ⟨_, .tail _ (.tail _ (.head _)), iM hk⟩)) (by rintro _ _ ⟨⟨_, hF⟩, hzz⟩; exact Frm.rlZ hF hzz) ?_
        rintro _ _ ⟨⟨hs, hF⟩, hzz⟩
        rw [hset24] at hs
        have hs : St w NoF _ ([_, _, _] ++ [_, _, _, _, _, _, _]) := hs
        clear hz3 hsl hF hzz
        (apply nW; exact rfl; (intro W hRl; have hs := St.rlV (A := [_, _, _]) (C0 := [_, _, _, _, _, _, _]) hs hZZ hRl; first | (apply aS; first | exact aN rfl rfl aA | exact bJ rfl rfl aA) | (apply aP; exact aO rfl rfl (by omega) (by omega) aA)); exact rfl)
        (apply nW; exact rfl; (intro W hRl; have hs := St.rlV (A := [_, _, _]) (C0 := [_, _, _, _, _, _, _]) hs hZZ hRl; first | (apply aS; first | exact aN rfl rfl aA | exact bJ rfl rfl aA) | (apply aP; exact aO rfl rfl (by omega) (by omega) aA)); exact rfl)
        (apply fE; case' hos => (simp only [List.map_cons, List.map_nil, List.getElem?_toArray, List.getElem?_cons_succ, List.getElem?_cons_zero]; repeat' (first | exact gI | apply fD)))
        apply bI
        have hsl : St w NoF _ [_, _, _, _, _, _, _, _, _, _] := hs
        refine JL_u (by apply bB; exact dQ (b := b) (o := o) (off := i * 4 + 3) (n := n) (c := n) (vs := [.slice q.2.2.2.1.1 (fJ q.2.2.2.2 ((p : Int) + 1)).length q.2.2.2.1.2.2]) hsl rfl rfl rfl rfl (by simp [Value.oneCell']) (by show i * 4 + 3 + 1 ≤ n * 4; omega)) rfl ?_
        rintro _ _ ⟨hs, hF⟩
        rw [hset27] at hs
        repeat' (first | (apply aU) | ((apply aK); (first | (apply aQ; exact aJ rfl aA) | (apply cO; exact bT rfl rfl (by omega) (by first | (simp only [Int.reduceAdd]; exact rfl) | exact rfl) aA)); first | (exact rfl; exact rfl) | exact rfl) | (apply aG) | (apply bP))
        have hs := St.packN (q := (q.1, q.2.1, ((q.2.2.1.1.1, (fJ q.2.2.1.2 ((p : Int) + 1)).length, q.2.2.1.1.2.2), fJ q.2.2.1.2 ((p : Int) + 1)), ((q.2.2.2.1.1, (fJ q.2.2.2.2 ((p : Int) + 1)).length, q.2.2.2.1.2.2), fJ q.2.2.2.2 ((p : Int) + 1)))) (L := [OwnN (qi.take i ++ qi.drop (i + 1)), _, _, _, _, _, _]) (hs.sel [3, 0, 1, 4, 2, 5, 6, 7, 8, 9] (by decide))
        rw [← hqn] at hs
        have hs := St.putN hql1 hs
        refine ih (i + 1, qi.set i qn) _ _ ⟨by dsimp only; rw [hqnr]; exact hs, ⟨hqnm, jX hqoi hqno⟩, by dsimp only; omega⟩ (by dsimp only; omega) zss
    · have hsl : St w NoF _ [_, _, _, _, _, _, _, _, _, _] := hs
      refine lX (t := 80) [(11, false), (13, false), (21, false), (22, false), (23, false), (24, false), (25, false), (26, false)] (by kernel_rfl) (by kernel_rfl) (by kernel_rfl) (by kernel_rfl) rfl rfl (by apply aX; exact gW (b := b) (o := o) (off := i * 4 + 3) (n := n) (c := n) hsl rfl hc3 aA) (fun _ _ h9 => by rw [(mK h9).2]; exact Rl.refl _) ?_
      intro _ _ h9
      obtain ⟨rfl, rfl⟩ := mK h9
      clear hsl
      refine jB [11] rfl (by kernel_rfl) ⟨?_, trivial⟩
      have hsl : St w NoF _ [_, _, _, _, _, _, _, _, _, _] := hs
      refine lX (t := 72) [(13, false), (21, false), (22, false), (23, false), (24, false), (25, false), (26, false)] (by kernel_rfl) (by kernel_rfl) (by kernel_rfl) (by kernel_rfl) rfl rfl (by apply aX; exact gW (b := b) (o := o) (off := i * 4 + 2) (n := n) (c := n) hsl rfl hc2 aA) (fun _ _ h9 => by rw [(mK h9).2]; exact Rl.refl _) ?_
      intro _ _ h9
      obtain ⟨rfl, rfl⟩ := mK h9
      clear hsl
      refine jB [13] rfl (by kernel_rfl) ⟨?_, trivial⟩
      have hz3 := St.zfoot (A := [_, _, _]) (C0 := [_, _, _, _, _, _, _]) hs hZZ
      have hb3 := iT (hs.all (Blk b3 (.cells #[.int .i64 ((p : Int) + 1)] 3 (0, 0))) (List.mem_append_right _ (.tail _ (.tail _ (.tail _ (.tail _ (.tail _ (.head _))))))))
      have hsc : St w NoF _ ([row2 q] ++ [_, _, _, _, _, _, _, _, _]) := hs
      have hne3 := lJ (b := b3) (o := .cells #[.int .i64 ((p : Int) + 1)] 3 (0, 0)) hsc zmm
      refine lX (t := 74) [(21, false), (22, false), (23, false), (24, false), (25, false), (26, false)] (by kernel_rfl) (by kernel_rfl) (by kernel_rfl) (by kernel_rfl) rfl rfl (jR (aB xH rfl (nQ _ q.2.2.1.1.1 q.2.2.1.1.2.1 q.2.2.1.1.2.2 q.2.2.1.2 (St.held (A := [_]) hsc) o4 hn2' 108 #[ptr b3] xI (fun x => decide (x.2 = (p : Int) + 1)) (fun W hW x hx => mE W x _ b3 ((hW b3 (Array.getElem?_eq_some_iff.1 hb3).1 (fun hf => hne3 b3 ⟨_, List.mem_singleton_self _, iM hf⟩ rfl)).trans hb3)))) (fun k hk => hz3 k ⟨_, .head _, iM (jU hk)⟩)) (by rintro _ _ ⟨⟨rfl, ht⟩, hzz⟩; exact Frm.rlZ ht.frm hzz) ?_
      rintro _ _ ⟨⟨rfl, ht⟩, hzz⟩
      have hsd := St.take (A := [_]) (A' := [_]) (L := [_, _, _, _, _, _, _, _, _]) hsc ht
      have hs : St w NoF _ ([_, _, _] ++ [_, _, _, _, _, _, _]) := hsd
      clear hz3 hb3 hne3 hsc hsd ht hzz
      refine jB [21] rfl (by kernel_rfl) ⟨?_, trivial⟩
      have hz3 := St.zfoot (A := [_, _, _]) (C0 := [_, _, _, _, _, _, _]) hs hZZ
      have hb3 := iT (hs.all (Blk b3 (.cells #[.int .i64 ((p : Int) + 1)] 3 (0, 0))) (List.mem_append_right _ (.tail _ (.tail _ (.tail _ (.tail _ (.tail _ (.head _))))))))
      have hsc : St w NoF _ ([row3 q] ++ [_, _, _, _, _, _, _, _, _]) := (show St w NoF _ [_, _, _, _, _, _, _, _, _, _] from hs).sel [1, 0, 2, 3, 4, 5, 6, 7, 8, 9] (by decide)
      have hne3 := lJ (b := b3) (o := .cells #[.int .i64 ((p : Int) + 1)] 3 (0, 0)) hsc zmm
      refine lX (t := 82) [(22, false), (23, false), (24, false), (25, false), (26, false)] (by kernel_rfl) (by kernel_rfl) (by kernel_rfl) (by kernel_rfl) rfl rfl (jR (aB xH rfl (nQ _ q.2.2.2.1.1 q.2.2.2.1.2.1 q.2.2.2.1.2.2 q.2.2.2.2 (St.held (A := [_]) hsc) o6 hn3' 108 #[ptr b3] xI (fun x => decide (x.2 = (p : Int) + 1)) (fun W hW x hx => mE W x _ b3 ((hW b3 (Array.getElem?_eq_some_iff.1 hb3).1 (fun hf => hne3 b3 ⟨_, List.mem_singleton_self _, iM hf⟩ rfl)).trans hb3)))) (fun k hk => hz3 k ⟨_, .tail _ (.head _), iM (jU hk)⟩)) (by rintro _ _ ⟨⟨rfl, ht⟩, hzz⟩; exact Frm.rlZ ht.frm hzz) ?_
      rintro _ _ ⟨⟨rfl, ht⟩, hzz⟩
      have hsd := St.take (A := [_]) (A' := [_]) (L := [_, _, _, _, _, _, _, _, _]) hsc ht
      have hs : St w NoF _ ([_, _, _] ++ [_, _, _, _, _, _, _]) := (show St w NoF _ [_, _, _, _, _, _, _, _, _, _] from hsd).sel [1, 0, 2, 3, 4, 5, 6, 7, 8, 9] (by decide)
      clear hz3 hb3 hne3 hsc hsd ht hzz
      (apply nW; exact rfl; (intro W hRl; have hs := St.rlV (A := [_, _, _]) (C0 := [_, _, _, _, _, _, _]) hs hZZ hRl; first | (apply aS; first | exact aN rfl rfl aA | exact bJ rfl rfl aA) | (apply aP; exact aO rfl rfl (by omega) (by omega) aA)); exact rfl)
      (apply nW; exact rfl; (intro W hRl; have hs := St.rlV (A := [_, _, _]) (C0 := [_, _, _, _, _, _, _]) hs hZZ hRl; first | (apply aS; first | exact aN rfl rfl aA | exact bJ rfl rfl aA) | (apply aP; exact aO rfl rfl (by omega) (by omega) aA)); exact rfl)
      refine jB [24] rfl (by kernel_rfl) ⟨?_, trivial⟩
      have hz3 := St.zfoot (A := [_, _, _]) (C0 := [_, _, _, _, _, _, _]) hs hZZ
      have hsl : St w NoF _ [_, _, _, _, _, _, _, _, _, _] := hs
      refine aAx [(25, false), (26, false)] (by kernel_rfl) (by kernel_rfl) (by kernel_rfl) (by kernel_rfl) rfl rfl (jR (by apply bB; exact dQ (b := b) (o := o) (off := i * 4 + 2) (n := n) (c := n) (vs := [.slice q.2.2.1.1.1 (fJ q.2.2.1.2 ((p : Int) + 1)).length q.2.2.1.1.2.2]) hsl rfl rfl rfl rfl (by simp [Value.oneCell']) (by show i * 4 + 2 + 1 ≤ n * 4; omega)) (fun k hk => hz3 k ⟨_, .tail _ (.tail _ (.head _)), iM hk⟩)) (by rintro _ _ ⟨⟨_, hF⟩, hzz⟩; exact Frm.rlZ hF hzz) ?_
      rintro _ _ ⟨⟨hs, hF⟩, hzz⟩
      rw [hset24] at hs
      have hs : St w NoF _ ([_, _, _] ++ [_, _, _, _, _, _, _]) := hs
      clear hz3 hsl hF hzz
      (apply nW; exact rfl; (intro W hRl; have hs := St.rlV (A := [_, _, _]) (C0 := [_, _, _, _, _, _, _]) hs hZZ hRl; first | (apply aS; first | exact aN rfl rfl aA | exact bJ rfl rfl aA) | (apply aP; exact aO rfl rfl (by omega) (by omega) aA)); exact rfl)
      (apply nW; exact rfl; (intro W hRl; have hs := St.rlV (A := [_, _, _]) (C0 := [_, _, _, _, _, _, _]) hs hZZ hRl; first | (apply aS; first | exact aN rfl rfl aA | exact bJ rfl rfl aA) | (apply aP; exact aO rfl rfl (by omega) (by omega) aA)); exact rfl)
      (apply fE; case' hos => (simp only [List.map_cons, List.map_nil, List.getElem?_toArray, List.getElem?_cons_succ, List.getElem?_cons_zero]; repeat' (first | exact gI | apply fD)))
      apply bI
      have hsl : St w NoF _ [_, _, _, _, _, _, _, _, _, _] := hs
      refine JL_u (by apply bB; exact dQ (b := b) (o := o) (off := i * 4 + 3) (n := n) (c := n) (vs := [.slice q.2.2.2.1.1 (fJ q.2.2.2.2 ((p : Int) + 1)).length q.2.2.2.1.2.2]) hsl rfl rfl rfl rfl (by simp [Value.oneCell']) (by show i * 4 + 3 + 1 ≤ n * 4; omega)) rfl ?_
      rintro _ _ ⟨hs, hF⟩
      rw [hset27] at hs
      repeat' (first | (apply aU) | ((apply aK); (first | (apply aQ; exact aJ rfl aA) | (apply cO; exact bT rfl rfl (by omega) (by first | (simp only [Int.reduceAdd]; exact rfl) | exact rfl) aA)); first | (exact rfl; exact rfl) | exact rfl) | (apply aG) | (apply bP))
      have hs := St.packN (q := (q.1, q.2.1, ((q.2.2.1.1.1, (fJ q.2.2.1.2 ((p : Int) + 1)).length, q.2.2.1.1.2.2), fJ q.2.2.1.2 ((p : Int) + 1)), ((q.2.2.2.1.1, (fJ q.2.2.2.2 ((p : Int) + 1)).length, q.2.2.2.1.2.2), fJ q.2.2.2.2 ((p : Int) + 1)))) (L := [OwnN (qi.take i ++ qi.drop (i + 1)), _, _, _, _, _, _]) (hs.sel [3, 0, 1, 4, 2, 5, 6, 7, 8, 9] (by decide))
      rw [← hqn] at hs
      have hs := St.putN hql1 hs
      refine ih (i + 1, qi.set i qn) _ _ ⟨by dsimp only; rw [hqnr]; exact hs, ⟨hqnm, jX hqoi hqno⟩, by dsimp only; omega⟩ (by dsimp only; omega) zss
  · have hin2 : i = n := by omega
    subst hin2
    rw [List.take_of_length_le (by omega), List.drop_of_length_le (by omega), List.append_nil, hN1, away_map] at hqmi
    obtain ⟨ML, hML⟩ : ∃ l, l = N.mapIdx (offN p) := ⟨_, rfl⟩
    rw [← hML] at hqmi
    have hMLl : ML.length = i := by rw [hML, List.length_mapIdx, hl]
    have hdN : kJ N p = ML.take (lO ML i) := by rw [hML]; unfold kJ uH; rw [List.length_mapIdx, hl]
    obtain ⟨x0, hx00, hxu0, _⟩ := g.first
    have hp0 : p ≠ 0 := fun e => h1 (by rw [e]; rfl)
    have hM0 : (ML.getD 0 n0).1 = true := by
      have : ML[0]? = some (offN p 0 x0) := by rw [hML, List.getElem?_mapIdx, hx00]; rfl
      rw [dR this, gU (fun e => hp0 e.symm)]
      exact hxu0
    have hlast1 : ∀ k, 1 ≤ k → 1 ≤ lO ML k := by
      intro k hk
      induction k with
      | zero => omega
      | succ k ihk =>
        unfold lO
        by_cases c9 : (ML.getD k n0).1 = true
        · rw [if_pos c9]; omega
        · rw [if_neg c9]
          by_cases e9 : k = 0
          · subst e9; exact absurd hM0 c9
          · exact ihk (by omega)
    repeat' (first | (apply aU) | ((apply aK); (first | (apply aX; first | exact aW hs rfl rfl aA | exact aI hs rfl aA) | (apply aF; exact aC rfl aA) | (apply aS; exact aN rfl rfl aA) | (apply aL; exact aM rfl rfl rfl aA) | (apply bO; exact bZ rfl aA)); first | (exact rfl; exact rfl) | exact rfl) | (apply bC) | (apply aG) | (apply bD) | (apply cK; refine cY rfl ?_) | (apply aT; refine bL rfl ob ?_))
    clear ih
    refine dK (α := Nat) [(2, _), (4, _)] (fun m => [(11, .int .i64 m)]) (fun m w' => St w NoF w' [OwnN qi, TabN (some ⟨b, o, none⟩) i i (qi.map rawN), dN a2' n2 n2 rs', Own rs' (E.set i0 gone), Blk b4 (.cells #[.slice none 0 0, .slice none 0 0] 57 (0, 0)), Blk b3 (.cells #[.int .i64 ((p : Int) + 1)] 3 (0, 0)), Blk b2 (.cells #[.slice (some ⟨b, o, none⟩) i i, .slice a2' n2 n2] 57 (0, 0))] ∧ (1 ≤ m ∧ m ≤ i) ∧ lO ML i = lO ML m) (fun m => m) i ⟨hs, ⟨by omega, Nat.le_refl _⟩, rfl⟩ zss ?_
    rintro m w3 ⟨hs3, ⟨hm1, hmi⟩, hlu⟩ ih
    have hs : St w NoF w3 [_, _, _, _, _, _, _] := hs3
    have hmi2 : inK .i64 (m : Int) := by unfold inK; simp only [IntKind.min, IntKind.max, IntKind.bits, IntKind.signed]; omega
    have hgm : ML[m - 1]? = some (ML[m - 1]'(by omega)) := List.getElem?_eq_getElem (by omega)
    have hsl : ∀ {W : World} {L : List HP}, St w NoF W L → TabN (some ⟨b, o, none⟩) i i (qi.map rawN) ∈ L → OwnN qi ∈ L → Sl jA All W (some ⟨b, o, none⟩) i i ML := fun hs u1 u2 => Sl.to hqmi (slN hs u1 u2 hqoi)
    have hlm : lO ML m = if (ML.getD (m - 1) n0).1 then m else lO ML (m - 1) := by
      obtain ⟨k, rfl⟩ : ∃ k, m = k + 1 := ⟨m - 1, by omega⟩
      rw [Nat.add_sub_cancel]; rfl
    obtain ⟨ub, hub⟩ : ∃ u, (ML.getD (m - 1) n0).1 = u := ⟨_, rfl⟩
    have his : isM ML (m : Int) = ub := by
      unfold isM
      rw [decide_eq_true (by omega), show ((m : Int) - 1).toNat = m - 1 by omega, hub]; rfl
    rw [hub] at hlm
    cases ub with
    | false =>
      rw [if_neg (by decide)] at hlm
      have hm2 : 2 ≤ m := Decidable.by_contra fun c9 => by
        have := hlast1 m hm1
        rw [hlm, show m - 1 = 0 by omega] at this
        unfold lO at this
        omega
      repeat' (first | ((apply aV 105; refine JL_o (by exact aB fI rfl (is_r _ (some ⟨b, o, none⟩) a2' i i n2 n2 ML (m : Int) (hsl hs zmm zmm) hmi2)) rfl rfl ?_; rintro _ _ ⟨rfl, hE⟩; rw [his]; have hs := hs.ext hE; (try simp only [zcc] at hs))) | (apply aU) | ((apply aK); (first | (apply aX; first | exact aW hs rfl rfl aA | exact aI hs rfl aA) | (apply aQ; exact aJ rfl aA) | (apply aF; exact aC rfl aA) | (apply eW; exact dS rfl rfl (by omega) aA) | (apply cF; exact cG rfl aA)); first | (exact rfl; exact rfl) | exact rfl) | (apply bC) | (apply aG) | (apply bD) | (apply bP) | (apply bK) | (apply aT; refine bQ rfl gb ?_))
      refine ih (m - 1) _ _ ⟨hs, ⟨by omega, by omega⟩, hlu.trans hlm⟩ (by omega) ?_
      rw [show ((m - 1 : Nat) : Int) = (m : Int) - 1 by omega]
      repeat' (first | exact trivial | exact rfl | apply And.intro)
    | true =>
      rw [if_pos rfl] at hlm
      repeat' (first | ((apply aV 105; refine JL_o (by exact aB fI rfl (is_r _ (some ⟨b, o, none⟩) a2' i i n2 n2 ML (m : Int) (hsl hs zmm zmm) hmi2)) rfl rfl ?_; rintro _ _ ⟨rfl, hE⟩; rw [his]; have hs := hs.ext hE; (try simp only [zcc] at hs))) | (apply aU) | ((apply aK); (first | (apply aX; first | exact aW hs rfl rfl aA | exact aI hs rfl aA) | (apply dY; exact eZ (kl := .i64) (kh := .i64) (km := .i64) (a' := some ⟨b, o, none⟩) (l := 0) (h := (m : Int)) (m := (m : Int)) rfl (.inl ⟨rfl, rfl⟩) (.inr ⟨_, rfl, rfl⟩) (.inr ⟨_, rfl, rfl⟩) (by omega) (by omega) (by omega) (by omega) (by split; rfl; exact addr0 _) (by rw [Int.sub_zero, Int.toNat_natCast]; exact aA)) | (apply aQ; exact aJ rfl aA) | (apply aF; exact aC rfl aA) | (apply aS; exact aN rfl rfl aA) | (apply cF; exact cG rfl aA)); first | (exact rfl; exact rfl) | exact rfl) | (apply bC) | (apply aG) | (apply cK; refine cY rfl ?_) | (apply bI; refine JL_u (by apply bB; exact aY hs rfl rfl rfl) rfl ?_; rintro _ _ ⟨hs, hF⟩) | (apply aT; refine bM rfl gb ?_))
      have hs := St.cutN m (hs.sel [0, 1, 2, 3, 4] (by decide))
      have hs := St.cutRow (L := [_, _, _, _]) (hs.sel [1, 0, 2, 3, 4] (by decide)) m m hmi (Nat.le_refl _) hmi
      have hct : (encL cNd (qi.map rawN)).take (m * 4) = encL cNd ((qi.take m).map rawN) := by rw [List.map_take]; exact (jN (d := dRNd) (qi.map rawN) m).symm
      rw [hct] at hs
      have hdl : (kJ N p).length = m := by rw [hdN, hlu, hlm, List.length_take]; omega
      refine aZ Tryz.func38 rfl (.agg' hs rfl rfl (.tmp rfl .nil)) (.inr ⟨rfl, some ⟨b, o, none⟩, m, m, a2', n2, n2, rfl, hmi, qi.take m, E.set i0 gone, rs', ⟨by rw [List.map_take, hqmi, hdN, hlu, hlm], fun u hu => hqoi u (List.mem_of_mem_take hu)⟩, ⟨nT hcE he0 he01, tN hc hxp hxu he0 he01 he0t⟩, ⟨hdl, (gone_len i0).trans hl2, hn2⟩, hs.out (.cons_cons _ (.cons_cons _ (.cons_cons _ (.cons_cons _ (List.nil_sublist _)))))⟩)
end Go.Eng
end
section
namespace Go.Eng
open Go.Proofs
set_option linter.unusedSimpArgs false
set_option linter.unusedVariables false
abbrev zG : Value := .agg #[.slice none 0 0, .slice none 0 0]
def GRes (w : World) (e : Int) (n : Int) (N' : List NM) (mx : Nat) (v : Value) (w' : World) : Prop :=
  (e ≠ 0 ∧ v = .tuple #[zG, .int .i64 0, .int .i64 e] ∧ Ext w w') ∨
  (e = 0 ∧ ∃ a' m' c' a2' m2 c2', v = .tuple #[.agg #[.slice a' m' c', .slice a2' m2 c2'], .int .i64 n, .int .i64 0] ∧ m' ≤ mx ∧ GOut w w' N' a' m' c' a2' m2 c2')
theorem GRes.bad {w w' : World} {e n : Int} {N' : List NM} {mx : Nat} {v : Value} (h : GRes w e n N' mx v w') (he : e ≠ 0) : v = .tuple #[zG, .int .i64 0, .int .i64 e] ∧ Ext w w' := by
  rcases h with ⟨_, r⟩ | ⟨h2, _⟩
  · exact r
  · exact absurd h2 he
theorem GRes.ok {w w' : World} {e n : Int} {N' : List NM} {mx : Nat} {v : Value} (h : GRes w e n N' mx v w') (he : e = 0) : ∃ a' m' c' a2' m2 c2', v = .tuple #[.agg #[.slice a' m' c', .slice a2' m2 c2'], .int .i64 n, .int .i64 0] ∧ m' ≤ mx ∧ GOut w w' N' a' m' c' a2' m2 c2' := by
  rcases h with ⟨h2, _⟩ | ⟨_, r⟩
  · exact absurd he h2
  · exact r
abbrev N00 : List NM := [newN []]
theorem gr_new : GR N00 := nodes_iff.1 (by decide)
theorem put_new {es : List Ent} (hc : dF es = true) (hp : (es.filter eI).Perm (allM (newE 8) ++ [(1, [], 1)])) : allM es = fP N00 := by
  refine aAi hc gr_new.uniq fun e => ?_
  rw [hp.mem_iff, aAh, List.nil_append, ents_mem, List.mem_singleton]
  constructor
  · rintro rfl; exact ⟨0, newN [], rfl, rfl, rfl⟩
  · rintro ⟨j, x, hx, hu, rfl⟩
    cases j with
    | zero => cases hx; rfl
    | succ j => cases hx
theorem putE_new : putE (newE 8) [] 1 = 0 := yL aAe tw0 (by omega) (fun y hy => by rw [show (newE 8).filter eI = [] by decide] at hy; cases hy) (by rw [aAh]; decide)
attribute [local irreducible] Hold J JL JD JX JXat OpR OpG Ret RetV Is Blk Row
set_option maxRecDepth 100000
set_option maxHeartbeats 1000000
theorem gnew_r (w : World) : Ret Tryz.prog 54 #[] w fun v w' => ∃ a' c' a2' m2 c2', v = .agg #[.slice a' 1 c', .slice a2' m2 c2'] ∧ GOut w w' N00 a' 1 c' a2' m2 c2' := by
  refine cJ (l := []) Tryz.func54 rfl Tryz.ntmps54 (by simp) ?_
  have hs := St.init w
  have h1i : inK .i64 (1 : Int) := by unfold inK; simp only [IntKind.min, IntKind.max, IntKind.bits, IntKind.signed]; omega
  repeat' (first | ((apply aV 133; refine JL_o (by exact aB en133 rfl (new_r _)) rfl rfl ?_; rintro _ _ ⟨a1, rfl, hf⟩; have hs := hs.fresh hf; (try simp only [zcc] at hs))) | ((apply aV 132; refine JL_o (by exact aB en132 rfl (yJ _ a1 8 8 (newE 8) none 0 0 [] 1 (dI hs zmm zmm) (by omega) (nil_sl _ _ _) h1i putE_new)) rfl rfl ?_; rintro _ _ ⟨es1, rs1, a4, ⟨hce1, hpe1, hle1⟩, rfl, hf⟩; have hs := hs.fresh hf; (try simp only [zcc] at hs))) | (apply aU) | ((apply aK); (first | (apply aX; first | exact aW hs rfl rfl aA | exact aI hs rfl aA) | (apply aQ; exact aJ rfl aA) | (apply aF; exact aC rfl aA) | (apply cD; exact bU rfl rfl aA) | (apply dE; exact cW rfl (by (simp only [bld, dB, bY, Value.cells, List.take_succ_cons, List.take_zero, List.drop_succ_cons, List.drop_zero, List.cons_append, List.nil_append, List.length_cons, List.length_nil, List.getElem?_cons_zero, List.getElem?_cons_succ, Option.map_some, List.append_nil, Nat.reduceAdd, Nat.reduceMul, Nat.zero_add, Nat.reduceLeDiff, and_self, if_true, List.toList_toArray, Nat.le_refl, Nat.zero_mul, Nat.one_mul]; first | done | rfl)) aA)); first | (exact rfl; exact rfl) | exact rfl) | (apply bC) | (apply aG) | (apply aH (t := 0); refine JL_o (by apply bA; exact aR hs) rfl rfl ?_; rintro _ _ ⟨b0, rfl, hb0, hs, hE⟩) | (apply aH (t := 1); refine JL_o (by apply bA; exact aR hs) rfl rfl ?_; rintro _ _ ⟨b1, rfl, hb1, hs, hE⟩) | (apply aH (t := 9); refine JL_o (by apply dA; exact cS hs rfl (by omega) rfl) rfl rfl ?_; rintro _ _ ⟨b9, rfl, hb9, hs, hE⟩) | (apply bI; refine JL_u (by apply bB; exact aY hs rfl rfl rfl) rfl ?_; rintro _ _ ⟨hs, hF⟩))
  have hs := St.toRow (L := [_, _, _]) (hs.sel [0, 2, 3, 6] (by decide)) 0 1 1 4 (xs := encL cNd [rNew z0]) (Nat.le_refl _) (by unfold maxLen; omega) (by decide) rfl
  have hs := St.pushN (hs.nilN.zeroN true)
  refine aZ Tryz.func54 rfl (.agg' hs rfl rfl .nil) ⟨_, 1, a4, es1.length, es1.length, rfl, [(true, (z0, []), (z0, []), (z0, []))], es1, rs1, ⟨rfl, fun q hq => by rw [List.mem_singleton.1 hq]; exact vR true⟩, ⟨hce1, put_new hce1 hpe1⟩, ⟨rfl, rfl, hle1⟩, (hs.sel [1, 0, 2, 3] (by decide)).out (List.Sublist.refl _)⟩
theorem gD (w : World) (a a2 : Option Addr) (n c n2 c2 : Nat) (N : List NM) (E : List Ent) (X0 id : Int) (h : Sl jA All w a n c N) (hE0 : Sl dEnt All w a2 n2 c2 E) (hn : n ≤ 900000) (hn2 : n2 ≤ 1048576) (hz : szN N) (hx0 : inK .i64 X0) (hid : okId id) :
    Ret Tryz.prog 35 #[.agg #[.slice a n c, .slice a2 n2 c2], .int .i64 X0, .int .u64 id] w (GRes w (goE N E X0 id true) (gon N X0 id true) (goL N X0 id true) (n + 1)) := by
  refine cJ (l := [_, _, _]) Tryz.func35 rfl Tryz.ntmps35 (by simp) ?_
  have hs := St.init w
  by_cases he : goE N E X0 id true = 0
  · repeat' (first | ((apply aV 100; refine JL_o (by exact aB en100 rfl ((zJ _ a a2 n c n2 c2 N E X0 id (h.st hs) (hE0.st hs) hn hn2 hz hx0 hid).mono (fun _ _ r => GRes.ok (mx := n + 1) r he))) rfl rfl ?_; rintro _ _ ⟨a', m', c', a2', m2, c2', rfl, hm', qs, es, rs', hq, hce, hnl, hf⟩; have hs := hs.fresh hf; (try simp only [zcc] at hs))) | (apply aU) | ((apply aK); (first | (apply aX; first | exact aW hs rfl rfl aA | exact aI hs rfl aA) | (apply aQ; exact aJ rfl aA) | (apply aF; exact aC rfl aA) | (apply cD; exact bU rfl rfl aA)); first | (exact rfl; exact rfl) | exact rfl) | (apply bC) | (apply aG) | (apply aH (t := 3); refine JL_o (by apply cA; exact bE hs rfl) rfl rfl ?_; rintro _ _ ⟨b3, rfl, hb3, hs, hE⟩) | (apply aH (t := 6); refine JL_o (by apply bA; exact aR hs) rfl rfl ?_; rintro _ _ ⟨b6, rfl, hb6, hs, hE⟩) | (apply bI; refine JL_u (by apply bB; exact aY hs rfl rfl rfl) rfl ?_; rintro _ _ ⟨hs, hF⟩))
    refine aZ Tryz.func35 rfl (.agg' hs rfl rfl (.tmp rfl (.tmp rfl .nil))) (.inr ⟨he, a', m', c', a2', m2, c2', rfl, hm', qs, es, rs', hq, hce, hnl, hs.out (.cons_cons _ (.cons_cons _ (.cons_cons _ (.cons_cons _ (List.nil_sublist _)))))⟩)
  · repeat' (first | ((apply aV 100; refine JL_o (by exact aB en100 rfl ((zJ _ a a2 n c n2 c2 N E X0 id (h.st hs) (hE0.st hs) hn hn2 hz hx0 hid).mono (fun _ _ r => GRes.bad (mx := n + 1) r he))) rfl rfl ?_; rintro _ _ ⟨rfl, hE⟩; have hs := hs.ext hE; (try simp only [zcc] at hs))) | (apply aU) | ((apply aK); (first | (apply aX; first | exact aW hs rfl rfl aA | exact aI hs rfl aA) | (apply aQ; exact aJ rfl aA) | (apply aF; exact aC rfl aA) | (apply cD; exact bU rfl rfl aA)); first | (exact rfl; exact rfl) | exact rfl) | (apply bC) | (apply aG) | (apply aH (t := 3); refine JL_o (by apply cA; exact bE hs rfl) rfl rfl ?_; rintro _ _ ⟨b3, rfl, hb3, hs, hE⟩) | (apply aH (t := 6); refine JL_o (by apply bA; exact aR hs) rfl rfl ?_; rintro _ _ ⟨b6, rfl, hb6, hs, hE⟩) | (apply bI; refine JL_u (by apply bB; exact aY hs rfl rfl rfl) rfl ?_; rintro _ _ ⟨hs, hF⟩))
    refine aZ Tryz.func35 rfl (.agg' hs rfl rfl (.tmp rfl (.tmp rfl .nil))) (.inl ⟨he, rfl, hs.frm.ext⟩)
theorem pK (w : World) (a a2 : Option Addr) (n c n2 c2 : Nat) (N : List NM) (E : List Ent) (X0 id : Int) (h : Sl jA All w a n c N) (hE0 : Sl dEnt All w a2 n2 c2 E) (hn : n ≤ 900000) (hn2 : n2 ≤ 1048576) (hz : szN N) (hx0 : inK .i64 X0) (hid : okId id) :
    Ret Tryz.prog 36 #[.agg #[.slice a n c, .slice a2 n2 c2], .int .i64 X0, .int .u64 id] w (GRes w (goE N E X0 id false) (gon N X0 id false) (goL N X0 id false) (n + 1)) := by
  refine cJ (l := [_, _, _]) Tryz.func36 rfl Tryz.ntmps36 (by simp) ?_
  have hs := St.init w
  by_cases he : goE N E X0 id false = 0
  · repeat' (first | ((apply aV 100; refine JL_o (by exact aB en100 rfl ((zK _ a a2 n c n2 c2 N E X0 id (h.st hs) (hE0.st hs) hn hn2 hz hx0 hid).mono (fun _ _ r => GRes.ok (mx := n + 1) r he))) rfl rfl ?_; rintro _ _ ⟨a', m', c', a2', m2, c2', rfl, hm', qs, es, rs', hq, hce, hnl, hf⟩; have hs := hs.fresh hf; (try simp only [zcc] at hs))) | (apply aU) | ((apply aK); (first | (apply aX; first | exact aW hs rfl rfl aA | exact aI hs rfl aA) | (apply aQ; exact aJ rfl aA) | (apply aF; exact aC rfl aA) | (apply cD; exact bU rfl rfl aA)); first | (exact rfl; exact rfl) | exact rfl) | (apply bC) | (apply aG) | (apply aH (t := 3); refine JL_o (by apply cA; exact bE hs rfl) rfl rfl ?_; rintro _ _ ⟨b3, rfl, hb3, hs, hE⟩) | (apply aH (t := 6); refine JL_o (by apply bA; exact aR hs) rfl rfl ?_; rintro _ _ ⟨b6, rfl, hb6, hs, hE⟩) | (apply bI; refine JL_u (by apply bB; exact aY hs rfl rfl rfl) rfl ?_; rintro _ _ ⟨hs, hF⟩))
    refine aZ Tryz.func36 rfl (.agg' hs rfl rfl (.tmp rfl (.tmp rfl .nil))) (.inr ⟨he, a', m', c', a2', m2, c2', rfl, hm', qs, es, rs', hq, hce, hnl, hs.out (.cons_cons _ (.cons_cons _ (.cons_cons _ (.cons_cons _ (List.nil_sublist _)))))⟩)
  · repeat' (first | ((apply aV 100; refine JL_o (by exact aB en100 rfl ((zK _ a a2 n c n2 c2 N E X0 id (h.st hs) (hE0.st hs) hn hn2 hz hx0 hid).mono (fun _ _ r => GRes.bad (mx := n + 1) r he))) rfl rfl ?_; rintro _ _ ⟨rfl, hE⟩; have hs := hs.ext hE; (try simp only [zcc] at hs))) | (apply aU) | ((apply aK); (first | (apply aX; first | exact aW hs rfl rfl aA | exact aI hs rfl aA) | (apply aQ; exact aJ rfl aA) | (apply aF; exact aC rfl aA) | (apply cD; exact bU rfl rfl aA)); first | (exact rfl; exact rfl) | exact rfl) | (apply bC) | (apply aG) | (apply aH (t := 3); refine JL_o (by apply cA; exact bE hs rfl) rfl rfl ?_; rintro _ _ ⟨b3, rfl, hb3, hs, hE⟩) | (apply aH (t := 6); refine JL_o (by apply bA; exact aR hs) rfl rfl ?_; rintro _ _ ⟨b6, rfl, hb6, hs, hE⟩) | (apply bI; refine JL_u (by apply bB; exact aY hs rfl rfl rfl) rfl ?_; rintro _ _ ⟨hs, hF⟩))
    refine aZ Tryz.func36 rfl (.agg' hs rfl rfl (.tmp rfl (.tmp rfl .nil))) (.inl ⟨he, rfl, hs.frm.ext⟩)
end Go.Eng
end
section
namespace Go.Eng
open Go.Proofs
set_option linter.unusedSimpArgs false
set_option linter.unusedVariables false
abbrev cC : Int := 4611686018427387907
abbrev cP : Int := 9223372054034644997
abbrev W1 : List NM := [(true, [], [(cC, 2)], []), (true, [cC], [], [(cC, 1)])]
abbrev W2 : List NM := [(true, [], [(cC, 2)], []), (true, [cC], [(cP, 3)], [(cC, 1)]), (true, [cC, cP], [], [(cP, 2)])]
set_option maxRecDepth 100000
theorem wk1 : goC N00 1 cC true = 0 ∧ gon N00 1 cC true = 2 ∧ goL N00 1 cC true = W1 := ⟨by kernel_rfl, by kernel_rfl, by kernel_rfl⟩
theorem wk2 : goC W1 2 cP true = 0 ∧ gon W1 2 cP true = 3 ∧ goL W1 2 cP true = W2 := ⟨by kernel_rfl, by kernel_rfl, by kernel_rfl⟩
theorem wk3 : goC W2 3 cC false = 0 ∧ gon W2 3 cC false = 4 := ⟨by kernel_rfl, by kernel_rfl⟩
theorem wk4 : drC W2 2 = 0 ∧ gE (drL W2 2) = [1, 3] ∧ gE W2 = [1, 2, 3] := ⟨by kernel_rfl, by kernel_rfl, by kernel_rfl⟩
theorem goE_of {N : List NM} {E : List Ent} {n id : Int} {plus : Bool} (g : GR N) (hc : dF E = true) (hA : allM E = fP N) : goE N E n id plus = goC N n id plus := by unfold goE; rw [check_iff.2 ⟨g, hc, hA⟩]; rfl
theorem drE_of {N : List NM} {E : List Ent} {n : Int} (g : GR N) (hc : dF E = true) (hA : allM E = fP N) : drE N E n = drC N n := by unfold drE; rw [check_iff.2 ⟨g, hc, hA⟩]; rfl
theorem iI {N : List NM} {E : List Ent} (g : GR N) (hc : dF E = true) (hA : allM E = fP N) : rE N E = gE N := by unfold rE; rw [check_iff.2 ⟨g, hc, hA⟩]; rfl
theorem dr_GR {N : List NM} {n : Int} (g : GR N) (h : drC N n = 0) : GR (drL N n) := by
  unfold drC at h
  cases hi : isM N n with
  | false => rw [hi, Bool.false_and] at h; exact absurd h (by decide)
  | true =>
    obtain ⟨p, x, rfl, hx, hu⟩ := isM_true.1 hi
    by_cases h1 : (p : Int) + 1 = 1
    · rw [hi, decide_eq_true h1] at h; exact absurd h (by decide)
    · have e : drL N ((p : Int) + 1) = kJ N p := by
        unfold drL drC
        rw [hi, decide_eq_false h1, show ((p : Int) + 1 - 1).toNat = p by omega]; rfl
      rw [e]
      exact drop_GR g hx hu (fun e => h1 (by rw [e]; rfl))
theorem slG {w0 w : World} {F : Nat → Prop} {L : List HP} {a : Option Addr} {n c : Nat} {qs : List QN} {N : List NM} (hs : St w0 F w L) (hq : qs.map iX = N) (hqo : ∀ q ∈ qs, okN q) (h1 : TabN a n c (qs.map rawN) ∈ L) (h2 : OwnN qs ∈ L) : Sl jA All w a n c N := Sl.to hq (slN hs h1 h2 hqo)
theorem GRes.goes {w w' : World} {N : List NM} {E : List Ent} {n id : Int} {plus : Bool} {k : Int} {N' : List NM} {mx : Nat} {v : Value} (r : GRes w (goE N E n id plus) (gon N n id plus) (goL N n id plus) mx v w') (g : GR N) (hc : dF E = true) (hA : allM E = fP N) (h1 : goC N n id plus = 0) (h2 : gon N n id plus = k) (h3 : goL N n id plus = N') :
    ∃ a' m' c' a2' m2 c2', v = .tuple #[.agg #[.slice a' m' c', .slice a2' m2 c2'], .int .i64 k, .int .i64 0] ∧ m' ≤ mx ∧ GOut w w' N' a' m' c' a2' m2 c2' := by
  rw [goE_of g hc hA, h2, h3] at r
  exact r.ok h1
attribute [local irreducible] Hold J JL JD JX JXat OpR OpG Ret RetV Is Blk Row
set_option maxHeartbeats 2000000
theorem comp3_r (w : World) : Ret Tryz.prog 91 #[.int .i64 3] w fun v w' => v = .tuple #[.int .u64 cC, .int .i64 0] ∧ Ext w w' := by
  refine cJ (l := [_]) Tryz.func91 rfl Tryz.ntmps91 (by simp) ?_
  have hs := St.init w
  have h3 : inK .i64 (3 : Int) := by unfold inK; simp only [IntKind.min, IntKind.max, IntKind.bits, IntKind.signed]; omega
  have hin : [(3 : Int)].all (inB 1 24) = true := by decide
  repeat' (first | ((apply aH (t := 5); refine JL_o (by apply dA; exact cS hs rfl (by omega) rfl) rfl rfl ?_; rintro _ _ ⟨b5, rfl, hb5, hs, hE⟩; have hs := hs.toRow 0 1 1 1 (xs := [3].map (.int .i64)) (Nat.le_refl _) (by unfold maxLen; omega) (by decide) rfl)) | ((apply aV 165; refine JL_o (by exact aB uV rfl (kT _ 1 24 (some ⟨b5, 0, none⟩) 1 1 [3] ((RowV.sl (hs.row (some ⟨b5, 0, none⟩) 1 1) (fun v hv => by rw [List.mem_singleton.1 hv]; exact h3)).weak (fun _ _ => trivial)))) rfl rfl ?_; rintro _ _ ⟨rfl, hE⟩; rw [hin]; have hs := hs.ext hE; (try simp only [zcc] at hs))) | ((apply aV 166; refine JL_o (by exact aB xG rfl (mB _ 4611686018427387904 0 3 (.inr (.inl rfl)) (by omega) (by omega))) rfl rfl ?_; rintro _ _ ⟨rfl, hE⟩; have hs := hs.ext hE; (try simp only [zcc] at hs))) | (apply aU) | ((apply aK); (first | (apply aQ; exact aJ rfl aA) | (apply aF; exact aC rfl aA) | (apply cF; exact cG rfl aA)); first | (exact rfl; exact rfl) | exact rfl) | (apply bC) | (apply aG) | (apply bK) | (apply aT; refine bM rfl gb ?_))
  refine aZ Tryz.func91 rfl (.tmp rfl (.tmp rfl .nil)) ⟨rfl, hs.frm.ext⟩
theorem pair45_r (w : World) : Ret Tryz.prog 92 #[.int .i64 4, .int .i64 5] w fun v w' => v = .tuple #[.int .u64 cP, .int .i64 0] ∧ Ext w w' := by
  refine cJ (l := [_, _]) Tryz.func92 rfl Tryz.ntmps92 (by simp) ?_
  have hs := St.init w
  have h45 : ∀ v ∈ [(4 : Int), 5], inK .i64 v := fun v hv => by
    simp only [List.mem_cons, List.not_mem_nil, or_false] at hv
    unfold inK; simp only [IntKind.min, IntKind.max, IntKind.bits, IntKind.signed]; omega
  have hin : [(4 : Int), 5].all (inB 0 1048578) = true := by decide
  repeat' (first | ((apply aH (t := 8); refine JL_o (by apply dA; exact cS hs rfl (by omega) rfl) rfl rfl ?_; rintro _ _ ⟨b5, rfl, hb5, hs, hE⟩; have hs := hs.toRow 0 2 2 1 (xs := [4, 5].map (.int .i64)) (Nat.le_refl _) (by unfold maxLen; omega) (by decide) rfl)) | ((apply aV 165; refine JL_o (by exact aB uV rfl (kT _ 0 1048578 (some ⟨b5, 0, none⟩) 2 2 [4, 5] ((RowV.sl (hs.row (some ⟨b5, 0, none⟩) 2 2) h45).weak (fun _ _ => trivial)))) rfl rfl ?_; rintro _ _ ⟨rfl, hE⟩; rw [hin]; have hs := hs.ext hE; (try simp only [zcc] at hs))) | ((apply aV 166; refine JL_o (by exact aB xG rfl (mB _ 9223372036854775808 4 5 (.inr (.inr rfl)) (by omega) (by omega))) rfl rfl ?_; rintro _ _ ⟨rfl, hE⟩; have hs := hs.ext hE; (try simp only [zcc] at hs))) | (apply aU) | ((apply aK); (first | (apply aQ; exact aJ rfl aA) | (apply aF; exact aC rfl aA) | (apply cF; exact cG rfl aA)); first | (exact rfl; exact rfl) | exact rfl) | (apply bC) | (apply aG) | (apply bK) | (apply aT; refine bM rfl gb ?_))
  refine aZ Tryz.func92 rfl (.tmp rfl (.tmp rfl .nil)) ⟨rfl, hs.frm.ext⟩
theorem mG (w : World) (a1 a2 : Option Addr) (n1 c1 n2 c2 : Nat) (xs ys : List Int) (h1 : Sl (tInt .i64) All w a1 n1 c1 xs) (h2 : Sl (tInt .i64) All w a2 n2 c2 ys) :
    Ret Tryz.prog 48 #[.slice a1 n1 c1, .slice a2 n2 c2] w fun v w' => v = .bool (decide (xs = ys)) ∧ Ext w w' := by
  refine cJ (l := [_, _]) Tryz.func48 rfl Tryz.ntmps48 (by simp) ?_
  have hs := St.init w
  have hl1 := h1.len
  have hl2 := h2.len
  have hmx : n1 ≤ 9223372036854775807 := by have h3 := h1.le; have h4 := h1.cap; unfold maxLen at h4; omega
  by_cases hn : n1 = n2
  · subst hn
    repeat' (first | (apply aU) | ((apply aK); (first | (apply aQ; exact aJ rfl aA) | (apply aF; exact aC rfl aA) | (apply aL; exact aM rfl rfl rfl aA) | (apply bO; exact bZ rfl aA)); first | (exact rfl; exact rfl) | exact rfl) | (apply bC) | (apply aG) | (apply bD) | (apply bK) | (apply aT; refine bL rfl ob ?_))
    refine dK (α := Nat) [(0, _), (1, _), (12, _)] (fun k => [(13, .int .i64 k)]) (fun k w' => St w NoF w' [] ∧ k ≤ n1 ∧ xs.take k = ys.take k) (fun k => n1 - k) 0 ⟨hs, Nat.zero_le _, rfl⟩ zss ?_
    rintro k w2 ⟨hs1, hk, heq⟩ ih
    have hs : St w NoF w2 [] := hs1
    by_cases hlt : k < n1
    · obtain ⟨p, o, rfl⟩ := h1.sl.addr (by omega)
      obtain ⟨p2, o2, rfl⟩ := h2.sl.addr (by omega)
      have hs : St w NoF w2 [] := hs1
      have hx : xs[k]? = some (xs[k]'(by omega)) := List.getElem?_eq_getElem (by omega)
      have hy : ys[k]? = some (ys[k]'(by omega)) := List.getElem?_eq_getElem (by omega)
      obtain ⟨x, hxd⟩ : ∃ x, x = xs[k]'(by omega) := ⟨_, rfl⟩
      obtain ⟨y, hyd⟩ : ∃ y, y = ys[k]'(by omega) := ⟨_, rfl⟩
      rw [← hxd] at hx
      rw [← hyd] at hy
      by_cases hc : x = y
      · have hc2 : x = y := hc
        repeat' (first | (apply aU) | ((first | (apply aK) | (apply JX_f; exact rfl; intro W X hs)); (first | (apply aX; first | exact cL (b := p) (o := o) (i := k) (j := 0) (h1.st hs) hx rfl rfl rfl aA | exact cL (b := p2) (o := o2) (i := k) (j := 0) (h2.st hs) hy rfl rfl rfl aA) | (apply aQ; exact aJ rfl aA) | (apply aF; exact aC rfl aA) | (apply cO; exact bT rfl rfl (by omega) (by first | (simp only [Int.reduceAdd]; exact rfl) | exact rfl) aA) | (apply aL; exact aM rfl rfl rfl aA) | (apply aP; exact aO rfl rfl (by omega) (by omega) aA)); first | (exact rfl; exact rfl) | exact rfl) | (apply bC) | (apply aG) | (apply bD) | (apply bP) | (apply bK) | (apply aT; first | refine bH rfl ob ?_ | refine bL rfl ob ?_) | (apply cZ; (refine dD (id := 6) [0, 0, 3, 7, 0, 0, 48, 112, 255] [(0, 0), (1, 0), (2, 0), (3, 0), (4, 0), (5, 0), (6, 0), (7, 0), (8, 0)] [] hs eQ (by kernel_rfl) (by kernel_rfl) (by kernel_rfl) (by kernel_rfl) (by kernel_rfl) ?_)) | (refine cX (fun W hs => ?_)) | (apply dL))
        refine ih (k + 1) _ _ ⟨hs, hlt, iL hx (by rw [hc]; exact hy) heq⟩ (by omega) zss
      · have hc2 : ¬ x = y := hc
        repeat' (first | (apply aU) | ((first | (apply aK) | (apply JX_f; exact rfl; intro W X hs)); (first | (apply aX; first | exact cL (b := p) (o := o) (i := k) (j := 0) (h1.st hs) hx rfl rfl rfl aA | exact cL (b := p2) (o := o2) (i := k) (j := 0) (h2.st hs) hy rfl rfl rfl aA) | (apply aQ; exact aJ rfl aA) | (apply aF; exact aC rfl aA) | (apply aL; exact aM rfl rfl rfl aA) | (apply aP; exact aO rfl rfl (by omega) (by omega) aA)); first | (exact rfl; exact rfl) | exact rfl) | (apply bC) | (apply aG) | (apply bD) | (apply bK) | (apply aT; refine bH rfl ob ?_) | (apply cZ; (refine dD (id := 6) [0, 0, 3, 7, 0, 0, 48, 112, 255] [(0, 0), (1, 0), (2, 0), (3, 0), (4, 0), (5, 0), (6, 0), (7, 0), (8, 0)] [] hs eQ (by kernel_rfl) (by kernel_rfl) (by kernel_rfl) (by kernel_rfl) (by kernel_rfl) ?_)) | (refine cX (fun W hs => ?_)) | (apply dL))
        refine aZ Tryz.func48 rfl (.tmp rfl .nil) ⟨congrArg Value.bool (decide_eq_false fun e => hc (by subst e; rw [hx] at hy; exact Option.some.inj hy)).symm, hs.frm.ext⟩
    · rw [List.take_of_length_le (by omega), List.take_of_length_le (by omega)] at heq
      repeat' (first | (apply aU) | ((apply aK); (first | (apply aF; exact aC rfl aA) | (apply aL; exact aM rfl rfl rfl aA)); first | (exact rfl; exact rfl) | exact rfl) | (apply bC) | (apply aG) | (apply cK; refine cY rfl ?_) | (apply aT; refine bL rfl ob ?_))
      refine aZ Tryz.func48 rfl (.tmp rfl .nil) ⟨congrArg Value.bool (decide_eq_true heq).symm, hs.frm.ext⟩
  · repeat' (first | (apply aU) | ((apply aK); (first | (apply aQ; exact aJ rfl aA) | (apply aF; exact aC rfl aA) | (apply aL; exact aM rfl rfl rfl aA) | (apply bO; exact bZ rfl aA)); first | (exact rfl; exact rfl) | exact rfl) | (apply bC) | (apply aG) | (apply aT; refine bH rfl ob ?_))
    refine aZ Tryz.func48 rfl (.tmp rfl .nil) ⟨congrArg Value.bool (decide_eq_false fun e => hn (by rw [← hl1, ← hl2, e])).symm, hs.frm.ext⟩
theorem fX (w : World) : Ret Tryz.prog 30 #[] w fun v w' => v = .bool true ∧ Ext w w' := by
  refine cJ (l := []) Tryz.func30 rfl Tryz.ntmps30 (by simp) ?_
  have hs := St.init w
  obtain ⟨a1, a2, a3⟩ := wk1
  obtain ⟨b1, b2, b3⟩ := wk2
  obtain ⟨c1, c2⟩ := wk3
  obtain ⟨d1, d2, d3⟩ := wk4
  have g0 := gr_new
  have g1 : GR W1 := by have := go_GR g0 a1; rw [a3] at this; exact this
  have g2 : GR W2 := by have := go_GR g1 b1; rw [b3] at this; exact this
  have z0 : szN N00 := by decide
  have z1 : szN W1 := by decide
  have z2 : szN W2 := by decide
  have i1 : inK .i64 (1 : Int) := by unfold inK; simp only [IntKind.min, IntKind.max, IntKind.bits, IntKind.signed]; omega
  have i2 : inK .i64 (2 : Int) := by unfold inK; simp only [IntKind.min, IntKind.max, IntKind.bits, IntKind.signed]; omega
  have i3 : inK .i64 (3 : Int) := by unfold inK; simp only [IntKind.min, IntKind.max, IntKind.bits, IntKind.signed]; omega
  have iC : okId cC := by show inK .u64 (4611686018427387907 : Int); unfold inK; simp only [IntKind.min, IntKind.max, IntKind.bits, IntKind.signed]; omega
  have iP : okId cP := by show inK .u64 (9223372054034644997 : Int); unfold inK; simp only [IntKind.min, IntKind.max, IntKind.bits, IntKind.signed]; omega
  have g4 : GR (drL W2 2) := dr_GR g2 d1
  have z4 : szN (drL W2 2) := by decide
  have h13 : ∀ v ∈ [(1 : Int), 3], inK .i64 v := fun v hv => by
    simp only [List.mem_cons, List.not_mem_nil, or_false] at hv
    unfold inK; simp only [IntKind.min, IntKind.max, IntKind.bits, IntKind.signed]; omega
  have h123 : ∀ v ∈ [(1 : Int), 2, 3], inK .i64 v := fun v hv => by
    simp only [List.mem_cons, List.not_mem_nil, or_false] at hv
    unfold inK; simp only [IntKind.min, IntKind.max, IntKind.bits, IntKind.signed]; omega
  repeat' (first | ((apply aV 91; refine JL_o (by exact aB en91 rfl (comp3_r _)) rfl rfl ?_; rintro _ _ ⟨rfl, hE⟩; have hs := hs.ext hE; (try simp only [zcc] at hs))) | ((apply aV 92; refine JL_o (by exact aB en92 rfl (pair45_r _)) rfl rfl ?_; rintro _ _ ⟨rfl, hE⟩; have hs := hs.ext hE; (try simp only [zcc] at hs))) | ((apply aV 54; refine JL_o (by exact aB en54 rfl (gnew_r _)) rfl rfl ?_; rintro _ _ ⟨t1, u1, t2, m2, u2, rfl, qs0, es0, rs0, ⟨hq0, ho0⟩, ⟨he0, hA0⟩, ⟨hl0, hm0, hx0⟩, hf⟩; have hs := hs.fresh hf; (try simp only [zcc] at hs))) | ((apply aV 35; refine JL_o (by exact aB en35 rfl ((gD _ t1 t2 1 u1 m2 u2 N00 es0 1 cC (slG hs hq0 ho0 zmm zmm) (dI hs zmm zmm) (by omega) hx0 z0 i1 iC).mono (fun _ _ r => r.goes g0 he0 hA0 a1 a2 a3))) rfl rfl ?_; rintro _ _ ⟨t3, k3, u3, t4, m4, u4, rfl, hk3, qs1, es1, rs1, ⟨hq1, ho1⟩, ⟨he1, hA1⟩, ⟨hl1, hm1, hx1⟩, hf⟩; have hs := hs.fresh hf; (try simp only [zcc] at hs))) | ((apply aV 35; refine JL_o (by exact aB en35 rfl ((gD _ t3 t4 k3 u3 m4 u4 W1 es1 2 cP (slG hs hq1 ho1 zmm zmm) (dI hs zmm zmm) (by omega) hx1 z1 i2 iP).mono (fun _ _ r => r.goes g1 he1 hA1 b1 b2 b3))) rfl rfl ?_; rintro _ _ ⟨t5, k5, u5, t6, m6, u6, rfl, hk5, qs2, es2, rs2, ⟨hq2, ho2⟩, ⟨he2, hA2⟩, ⟨hl2, hm2, hx2⟩, hf⟩; have hs := hs.fresh hf; (try simp only [zcc] at hs))) | ((apply aV 36; refine JL_o (by exact aB en36 rfl ((pK _ t5 t6 k5 u5 m6 u6 W2 es2 3 cC (slG hs hq2 ho2 zmm zmm) (dI hs zmm zmm) (by omega) hx2 z2 i3 iC).mono (fun _ _ r => r.goes g2 he2 hA2 c1 c2 rfl))) rfl rfl ?_; rintro _ _ ⟨t7, k7, u7, t8, m8, u8, rfl, hk7, qs3, es3, rs3, ⟨hq3, ho3⟩, ⟨he3, hA3⟩, ⟨hl3, hm3, hx3⟩, hf⟩; have hs := hs.fresh hf; (try simp only [zcc] at hs))) | ((apply aV 38; refine JL_o (by exact aB en38 rfl (((gdrop_r _ t5 t6 k5 u5 m6 u6 W2 es2 2 (slG hs hq2 ho2 zmm zmm) (dI hs zmm zmm) (by omega) hx2 z2 i2).mono (fun _ _ r => r.resolve_left (fun e => e.1 (by rw [drE_of g2 he2 hA2]; exact d1)))))) rfl rfl ?_; rintro _ _ ⟨_, t9, k9, u9, t10, m10, u10, rfl, hk9, qs4, es4, rs4, ⟨hq4, ho4⟩, ⟨he4, hA4⟩, ⟨hl4, hm4, hx4⟩, hf⟩; have hs := hs.fresh hf; (try simp only [zcc] at hs))) | ((apply bV 49; refine bX rfl gb (by exact aB en49 rfl ((kH _ t9 t10 k9 u9 m10 u10 (drL W2 2) es4 (slG hs hq4 ho4 zmm zmm) (dI hs zmm zmm) (by omega) hx4 z4).mono (fun _ _ r => by rw [iI g4 he4 hA4, d2] at r; exact r))) rfl rfl ?_; rintro _ _ ⟨t11, u11, rfl, hf⟩; have hs := hs.fresh hf; (try simp only [zcc] at hs))) | ((refine bX (t := 81) rfl gb (by apply dA; exact cS hs rfl (by omega) rfl) rfl rfl ?_; rintro _ _ ⟨q1, rfl, hq1b, hs, hE⟩; have hs := hs.toRow 0 2 2 1 (xs := [(1 : Int), 3].map (.int .i64)) (Nat.le_refl _) (by unfold maxLen; omega) (by decide) rfl)) | ((apply bV 48; refine bX rfl gb (by exact aB en48 rfl (mG _ t11 (some ⟨q1, 0, none⟩) 2 u11 2 2 [1, 3] [1, 3] ((RowV.sl (hs.row t11 2 u11) h13).weak (fun _ _ => trivial)) ((RowV.sl (hs.row (some ⟨q1, 0, none⟩) 2 2) h13).weak (fun _ _ => trivial)))) rfl rfl ?_; rintro _ _ ⟨rfl, hE⟩; have hs := hs.ext hE; (try simp only [zcc] at hs))) | ((apply bV 49; refine bX rfl gb (by exact aB en49 rfl ((kH _ t5 t6 k5 u5 m6 u6 W2 es2 (slG hs hq2 ho2 zmm zmm) (dI hs zmm zmm) (by omega) hx2 z2).mono (fun _ _ r => by rw [iI g2 he2 hA2, d3] at r; exact r))) rfl rfl ?_; rintro _ _ ⟨t12, u12, rfl, hf⟩; have hs := hs.fresh hf; (try simp only [zcc] at hs))) | ((refine bX (t := 87) rfl gb (by apply dA; exact cS hs rfl (by omega) rfl) rfl rfl ?_; rintro _ _ ⟨q2, rfl, hq2b, hs, hE⟩; have hs := hs.toRow 0 3 3 1 (xs := [(1 : Int), 2, 3].map (.int .i64)) (Nat.le_refl _) (by unfold maxLen; omega) (by decide) rfl)) | ((apply bV 48; refine bX rfl gb (by exact aB en48 rfl (mG _ t12 (some ⟨q2, 0, none⟩) 3 u12 3 3 [1, 2, 3] [1, 2, 3] ((RowV.sl (hs.row t12 3 u12) h123).weak (fun _ _ => trivial)) ((RowV.sl (hs.row (some ⟨q2, 0, none⟩) 3 3) h123).weak (fun _ _ => trivial)))) rfl rfl ?_; rintro _ _ ⟨rfl, hE⟩; have hs := hs.ext hE; (try simp only [zcc] at hs))) | (apply aU) | ((first | (apply aK) | (apply bS; exact rfl; exact gb)); (first | (apply aQ; exact aJ rfl aA) | (apply aF; exact aC rfl aA) | (apply aX; exact aI hs rfl aA) | (apply aL; exact aM rfl rfl rfl aA) | (apply cH; exact bR rfl gb rfl aA) | (apply cD; exact bU rfl rfl aA)); first | (exact rfl; exact rfl) | exact rfl) | (apply bC) | (apply aG) | (apply aH (t := 5); refine JL_o (by apply bA; exact aR hs) rfl rfl ?_; rintro _ _ ⟨b5, rfl, hb5, hs, hE⟩) | (apply aH (t := 8); refine JL_o (by apply bA; exact aR hs) rfl rfl ?_; rintro _ _ ⟨b8, rfl, hb8, hs, hE⟩) | (apply aH (t := 11); refine JL_o (by apply bA; exact aR hs) rfl rfl ?_; rintro _ _ ⟨b11, rfl, hb11, hs, hE⟩) | (apply aH (t := 14); refine JL_o (by apply bA; exact aR hs) rfl rfl ?_; rintro _ _ ⟨b14, rfl, hb14, hs, hE⟩) | (apply bI; refine JL_u (by apply bB; exact aY hs rfl rfl rfl) rfl ?_; rintro _ _ ⟨hs, hF⟩))
  refine aZ Tryz.func30 rfl (.tmp rfl .nil) ⟨rfl, hs.frm.ext⟩
end Go.Eng
end
section
namespace Go.Eng
open Go.Proofs
set_option linter.unusedSimpArgs false
set_option linter.unusedVariables false
def cutN (x : NM) : NM := (x.1, x.2.1.take 14, x.2.2.1.take 20, x.2.2.2.take 20)
def oH (N : List NM) : List NM := (N.take 30).map cutN
def tB (E : List Ent) : List Ent := (E.take 128).map cutE
theorem yQ (N : List NM) : (oH N).length ≤ 30 := by unfold oH; rw [List.length_map, List.length_take]; omega
theorem yR (E : List Ent) : (tB E).length ≤ 128 := by unfold tB; rw [List.length_map, List.length_take]; omega
def tiny (k : Nat) (N : List NM) : Prop := N.length ≤ 30 + k ∧ ∀ x ∈ N, x.2.1.length ≤ 14 + k ∧ x.2.2.1.length ≤ 20 + k ∧ x.2.2.2.length ≤ 20 + k
theorem wW (N : List NM) : tiny 0 (oH N) := ⟨yQ N, fun x hx => by
  unfold oH at hx
  obtain ⟨y, _, rfl⟩ := List.mem_map.1 hx
  unfold cutN
  refine ⟨?_, ?_, ?_⟩
  · show (y.2.1.take 14).length ≤ _; rw [List.length_take]; omega
  · show (y.2.2.1.take 20).length ≤ _; rw [List.length_take]; omega
  · show (y.2.2.2.take 20).length ≤ _; rw [List.length_take]; omega⟩
theorem tiny.sz {k : Nat} {N : List NM} (h : tiny k N) (hk : k ≤ 1000) : szN N := fun x hx => by
  obtain ⟨h1, h2, h3⟩ := h.2 x hx
  exact ⟨by omega, by omega, by omega⟩
theorem Sl.cutM {α : Type} {d : Ty α} {R : Nat → Prop} {w : World} {a : Option Addr} {n c : Nat} {xs : List α} (h : Sl d R w a n c xs) (m : Nat) : Sl d R w a (min n m) c (xs.take m) := by
  have h1 := h.cut (min n m) (Nat.min_le_left _ _)
  have hl := h.len
  have e : xs.take (min n m) = xs.take m := by rw [← hl, Nat.min_comm, ← List.take_eq_take_min]
  rwa [e] at h1
attribute [local irreducible] Hold J JL JD JX JXat OpR OpG Ret RetV Is Blk Row
set_option maxRecDepth 100000
set_option maxHeartbeats 2000000
theorem iY (w : World) (a a2 : Option Addr) (n c n2 c2 : Nat) (N : List NM) (E : List Ent) (h : Sl jA All w a n c N) (hE0 : Sl dEnt All w a2 n2 c2 E) :
    Ret Tryz.prog 31 #[.agg #[.slice a n c, .slice a2 n2 c2]] w fun v w' => ∃ (qs : List QN) (rs' : List REnt) (a' a2' : Option Addr) (c' c2' : Nat), (qs.map iX = oH N ∧ ∀ q ∈ qs, okN q) ∧ v = .agg #[.slice a' (oH N).length c', .slice a2' (tB E).length c2'] ∧ Fresh w w' [TabN a' (oH N).length c' (qs.map rawN), OwnN qs, dN a2' (tB E).length c2' rs', Own rs' (tB E)] := by
  refine cJ (l := [_]) Tryz.func31 rfl Tryz.ntmps31 (by simp) ?_
  have hs := St.init w
  have hcap1 : n ≤ 9223372036854775807 := by have h1 := h.le; have h2 := h.cap; unfold maxLen at h2; omega
  have hcap2 : n2 ≤ 9223372036854775807 := by have h1 := hE0.le; have h2 := hE0.cap; unfold maxLen at h2; omega
  have hle1 := h.le
  have hle2 := hE0.le
  have h := h.cutM 30
  have hE0 := hE0.cutM 128
  have hl := h.len
  have hl2 := hE0.len
  have hNo := sU h
  have hEo := oK hE0
  obtain ⟨N1, hN1⟩ : ∃ N1, N1 = N.take 30 := ⟨_, rfl⟩
  obtain ⟨E1, hE1⟩ : ∃ E1, E1 = E.take 128 := ⟨_, rfl⟩
  have eN : oH N = N1.map cutN := by unfold oH; rw [hN1]
  have eE : tB E = E1.map cutE := by unfold tB; rw [hE1]
  rw [← hN1] at h hl hNo
  rw [← hE1] at hE0 hl2 hEo
  rw [eN, eE]
  clear eN eE hN1 hE1
  obtain ⟨k1, hk1⟩ : ∃ k1, k1 = min n 30 := ⟨_, rfl⟩
  obtain ⟨k2, hk2⟩ : ∃ k2, k2 = min n2 128 := ⟨_, rfl⟩
  rw [← hk1] at h hl
  rw [← hk2] at hE0 hl2
  obtain ⟨rs, hr, hm⟩ := Sl.raw (D := mX) h
  obtain ⟨re, hre, hme⟩ := Sl.raw (D := lE) hE0
  have hlr := hr.len
  have hlre := hre.len
  repeat' (first | (apply aU) | ((apply aK); (first | (apply dY; exact eM (q := k1) rfl rfl (by omega) (by omega) aA) | (apply aQ; exact aJ rfl aA) | (apply aS; exact aN rfl rfl aA) | (apply aX; exact aW hs rfl rfl aA) | (apply bO; exact bZ rfl aA) | (apply oS; exact sF rfl rfl aA)); first | (exact rfl; exact rfl) | exact rfl) | (apply bC) | (apply aG) | (apply bD) | (apply aH (t := 1); refine JL_o (by apply cA; exact bE hs rfl) rfl rfl ?_; rintro _ _ ⟨b1, rfl, hb1, hs, hE⟩) | (apply aH (t := 2); refine JL_o (by apply bA; exact aR hs) rfl rfl ?_; rintro _ _ ⟨b2, rfl, hb2, hs, hE⟩) | (apply aH (t := 3); refine JL_o (by apply bA; exact aR hs) rfl rfl ?_; rintro _ _ ⟨b3, rfl, hb3, hs, hE⟩))
  have hs := hs.nilN.nilRow 79 4
  refine dK (α := Nat × List QN × Option Addr × Nat) [(1, _), (2, _), (3, _), (14, _), (15, _)] (fun g => [(16, .int .i64 g.1)])
    (fun g w' => St w NoF w' [TabN g.2.2.1 g.1 g.2.2.2 (g.2.1.map rawN), OwnN g.2.1, Blk b3 (.cells #[.slice g.2.2.1 g.1 g.2.2.2, .slice none 0 0] 57 (0, 0)), Blk b2 (.cells #[.slice none 0 0, .slice none 0 0] 57 (0, 0)), Blk b1 (.cells #[.slice a n c, .slice a2 n2 c2] 57 (0, 0))] ∧ (g.2.1.map iX = (N1.take g.1).map cutN ∧ ∀ q ∈ g.2.1, okN q) ∧ g.1 ≤ k1)
    (fun g => k1 - g.1) (0, [], none, 0) ⟨hs, ⟨rfl, fun q hq => by cases hq⟩, Nat.zero_le _⟩ zss ?_
  rintro ⟨k, qs, a', c'⟩ w2 ⟨hs1, ⟨hqm, hqo⟩, hk⟩ ih
  dsimp only at hs1 hqm hqo hk ih ⊢
  have hql : qs.length = k := by have := congrArg List.length hqm; rw [List.length_map, List.length_map, List.length_take] at this; omega
  by_cases hlt : k < k1
  · obtain ⟨p, o, rfl⟩ := hr.sl.addr (by omega)
    have hs : St w NoF w2 [_, _, _, _, _] := hs1
    have hx : N1[k]? = some (N1[k]'(by omega)) := List.getElem?_eq_getElem (by omega)
    obtain ⟨x, hxd⟩ : ∃ x, x = N1[k]'(by omega) := ⟨_, rfl⟩
    rw [← hxd] at hx
    obtain ⟨o1, o2, o3⟩ := hNo x (List.mem_of_getElem? hx)
    obtain ⟨r, hrx, f1, f2, f3, f4⟩ := hm.get hx
    have f1 : r.1 = x.1 := f1
    have m1 : Sl dId All w r.2.1.1 r.2.1.2.1 r.2.1.2.2 x.2.1 := f2
    have m2 : Sl dStp All w r.2.2.1.1 r.2.2.1.2.1 r.2.2.1.2.2 x.2.2.1 := f3
    have m3 : Sl dStp All w r.2.2.2.1 r.2.2.2.2.1 r.2.2.2.2.2 x.2.2.2 := f4
    have l1 := m1.le
    have l2 := m2.le
    have l3 := m3.le
    have m1 := m1.cutM 14
    have m2 := m2.cutM 20
    have m3 := m3.cutM 20
    obtain ⟨q1, hq1⟩ : ∃ q, q = min r.2.1.2.1 14 := ⟨_, rfl⟩
    obtain ⟨q2, hq2⟩ : ∃ q, q = min r.2.2.1.2.1 20 := ⟨_, rfl⟩
    obtain ⟨q3, hq3⟩ : ∃ q, q = min r.2.2.2.2.1 20 := ⟨_, rfl⟩
    rw [← hq1] at m1
    rw [← hq2] at m2
    rw [← hq3] at m3
    have g1 := m1.len
    have g2 := m2.len
    have g3 := m3.len
    repeat' (first | ((apply ax_c; apply eH 24; exact rfl; (intro W X hN hs; exact aB en24 rfl (nD _ r.2.1.1 q1 r.2.1.2.2 (x.2.1.take 14) (m1.st hs) (by omega))); (rintro _ _ _ _ ⟨a5, c5, rfl, hf⟩; first | exact hE | exact Fresh.ext hf); rintro W X _ _ hN hs ⟨a5, c5, rfl, hf⟩; have hs := hs.fresh hf; (try simp only [zcc] at hs); refine JX.at hs ?_)) | ((apply ax_c; apply eH 93; exact rfl; (intro W X hN hs; exact aB en93 rfl (wA _ r.2.2.1.1 q2 r.2.2.1.2.2 (x.2.2.1.take 20) (m2.st hs) (by omega))); (rintro _ _ _ _ ⟨a6, c6, rfl, hf⟩; first | exact hE | exact Fresh.ext hf); rintro W X _ _ hN hs ⟨a6, c6, rfl, hf⟩; have hs := hs.fresh hf; (try simp only [zcc] at hs); refine JX.at hs ?_)) | ((apply ax_c; apply eH 93; exact rfl; (intro W X hN hs; exact aB en93 rfl (wA _ r.2.2.2.1 q3 r.2.2.2.2.2 (x.2.2.2.take 20) (m3.st hs) (by omega))); (rintro _ _ _ _ ⟨a7, c7, rfl, hf⟩; first | exact hE | exact Fresh.ext hf); rintro W X _ _ hN hs ⟨a7, c7, rfl, hf⟩; have hs := hs.fresh hf; (try simp only [zcc] at hs); refine JX.at hs ?_)) | ((apply aH (t := 51); refine JL_o (by apply dW; exact gC (xs := encL cNd (qs.map rawN)) (news := cNd (r.1, (a5, q1, c5), (a6, q2, c6), (a7, q3, c7))) hs rfl rfl (vI (r := (r.1, (a5, q1, c5), (a6, q2, c6), (a7, q3, c7))) (hs.blk (b := b50))) fN rfl (by omega) (by unfold maxLen; omega)) rfl rfl ?_; rintro _ _ ⟨a8, c8, rfl, hs, hF, hnil⟩)) | (apply aU) | ((first | (apply aK) | (apply JX_f; exact rfl; intro W X hs)); (first | (apply dY; first | exact eM (q := q1) rfl rfl (by omega) (by omega) aA | exact eM (q := q2) rfl rfl (by omega) (by omega) aA | exact eM (q := q3) rfl rfl (by omega) (by omega) aA) | (apply aX; first | exact aW hs rfl rfl aA | exact aI hs rfl aA | exact bF (hr.st hs) hrx rfl rfl aA) | (apply aQ; exact aJ rfl aA) | (apply aS; exact aN rfl rfl aA) | (apply cO; exact bT rfl rfl (by omega) (by first | (simp only [Int.reduceAdd]; exact rfl) | exact rfl) aA) | (apply aL; exact aM rfl rfl rfl aA) | (apply bO; exact bZ rfl aA) | (apply oS; exact sF rfl rfl aA) | (apply aP; exact aO rfl rfl (by omega) (by omega) aA)); first | (exact rfl; exact rfl) | exact rfl) | (apply bC) | (apply aG) | (apply bD) | (apply bP) | (apply bK) | (apply aH (t := 5); refine JL_o (by apply bA; exact aR hs) rfl rfl ?_; rintro _ _ ⟨b5, rfl, hb5, hs, hE⟩) | (apply aH (t := 50); refine JL_o (by apply dA; exact cS hs rfl (by omega) rfl) rfl rfl ?_; rintro _ _ ⟨b50, rfl, hb50, hs, hE⟩) | (apply bI; refine JL_u (by apply bB; exact aY hs rfl rfl rfl) rfl ?_; rintro _ _ ⟨hs, hF⟩) | (apply aT; refine bH rfl ob ?_) | (apply cZ; (refine dD (id := 5) [0, 1, 0, 4, 12, 28, 63, 127, 0, 256, 0, 1024, 3072, 7168, 16128, 32767, 0, 65536, 0, 262144, 786432, 1835008, 4128768, 8388607, 987135, 33554431, 67108863, 134217727, 268435455, 536870911] [(0, 0), (1, 0), (2, 0), (3, 0), (4, 0), (5, 0), (6, 0), (8, 0), (9, 0), (10, 0), (11, 0), (12, 0), (13, 0), (14, 0), (16, 0), (17, 0), (18, 0), (19, 0), (20, 0), (21, 0), (22, 0), (7, 1), (24, 0), (15, 1), (23, 1)] [25, 26, 27, 28, 29] hs eQ (by kernel_rfl) (by kernel_rfl) (by kernel_rfl) (by kernel_rfl) (by kernel_rfl) ?_)) | (refine cX (fun W hs => ?_)) | (apply fE; case' hos => (simp only [List.map_cons, List.map_nil, List.getElem?_toArray, List.getElem?_cons_succ, List.getElem?_cons_zero]; repeat' (first | exact gI | apply fD))))
    rw [vG, tH] at hs
    obtain ⟨q, hq⟩ : ∃ q : QN, q = (r.1, ((a5, q1, c5), x.2.1.take 14), ((a6, q2, c6), x.2.2.1.take 20), ((a7, q3, c7), x.2.2.2.take 20)) := ⟨_, rfl⟩
    have hs := St.packN (q := (r.1, ((a5, q1, c5), x.2.1.take 14), ((a6, q2, c6), x.2.2.1.take 20), ((a7, q3, c7), x.2.2.2.take 20))) (L := [OwnN qs, _, _, _, _]) (hs.sel [3, 2, 1, 6, 5, 7, 8, 9] (by decide))
    rw [← hq] at hs
    have hs := St.pushN hs
    have hmp : (qs ++ [q]).map rawN = qs.map rawN ++ [(r.1, (a5, q1, c5), (a6, q2, c6), (a7, q3, c7))] := by rw [List.map_append, hq]; rfl
    have hqok : okN q := by rw [hq]; exact ⟨⟨g1.symm, fun u hu => o1 u (List.mem_of_mem_take hu)⟩, ⟨g2.symm, fun u hu => o2 u (List.mem_of_mem_take hu)⟩, ⟨g3.symm, fun u hu => o3 u (List.mem_of_mem_take hu)⟩⟩
    have hqm2 : iX q = cutN x := by rw [hq]; exact nm_eq.2 ⟨f1, rfl, rfl, rfl⟩
    have htk : N1.take (k + 1) = N1.take k ++ [x] := by rw [List.take_add_one, hx]; rfl
    refine ih (k + 1, qs ++ [q], a8, c8) _ _ ⟨by dsimp only; rw [hmp]; exact hs.sel [1, 0, 2, 3, 4] (by decide), ⟨by dsimp only; rw [List.map_append, hqm, htk, List.map_append]; rw [List.map_cons, hqm2]; rfl, fun u hu => ?_⟩, by dsimp only; omega⟩ (by dsimp only; omega) zss
    rcases List.mem_append.1 hu with e | e
    · exact hqo u e
    · rw [List.mem_singleton.1 e]; exact hqok
  · have hkn : k = k1 := by omega
    subst hkn
    rw [List.take_of_length_le (by omega)] at hqm
    have hs : St w NoF w2 [_, _, _, _, _] := hs1
    repeat' (first | (apply aU) | ((apply aK); (first | (apply dY; exact eM (q := k2) rfl rfl (by omega) (by omega) aA) | (apply aQ; exact aJ rfl aA) | (apply aS; first | exact aN rfl rfl aA | exact bJ rfl rfl aA) | (apply aX; exact aW hs rfl rfl aA) | (apply aL; exact aM rfl rfl rfl aA) | (apply bO; exact bZ rfl aA) | (apply oS; exact sF rfl rfl aA)); first | (exact rfl; exact rfl) | exact rfl) | (apply bC) | (apply aG) | (apply bD) | (apply cK; refine cY rfl ?_) | (apply aT; refine bL rfl ob ?_))
    clear ih
    have hs := hs.nilOwn.nilRow 139 3
    refine dK (α := Nat × List REnt × Option Addr × Nat) [(2, _), (3, _), (62, _), (63, _)] (fun g => [(64, .int .i64 g.1)])
      (fun g w' => St w NoF w' [dN g.2.2.1 g.1 g.2.2.2 g.2.1, Own g.2.1 ((E1.take g.1).map cutE), TabN a' k c' (qs.map rawN), OwnN qs, Blk b3 (.cells #[.slice a' k c', .slice g.2.2.1 g.1 g.2.2.2] 57 (0, 0)), Blk b2 (.cells #[.slice none 0 0, .slice none 0 0] 57 (0, 0)), Blk b1 (.cells #[.slice a n c, .slice a2 n2 c2] 57 (0, 0))] ∧ g.1 ≤ k2)
      (fun g => k2 - g.1) (0, [], none, 0) ⟨hs, Nat.zero_le _⟩ zss ?_
    rintro ⟨j, ro, a4, c4⟩ w3 ⟨hs2, hj⟩ ih
    dsimp only at hs2 hj ih ⊢
    by_cases hlt2 : j < k2
    · obtain ⟨p, o, rfl⟩ := hre.sl.addr (by omega)
      have hs : St w NoF w3 [_, _, _, _, _, _, _] := hs2
      have hx : E1[j]? = some (E1[j]'(by omega)) := List.getElem?_eq_getElem (by omega)
      obtain ⟨x, hxd⟩ : ∃ x, x = E1[j]'(by omega) := ⟨_, rfl⟩
      rw [← hxd] at hx
      obtain ⟨r, hrx, hrel⟩ := hme.get hx
      obtain ⟨o1, o2, o3⟩ := hEo x (List.mem_of_getElem? hx)
      have e1 : r.1 = x.1 := hrel.1
      have e3 : r.2.2 = x.2.2 := hrel.2.2
      have m1 : Sl dId All w r.2.1.1 r.2.1.2.1 r.2.1.2.2 x.2.1 := hrel.2.1
      have l1 := m1.le
      have m1 := m1.cutM 14
      obtain ⟨q1, hq1⟩ : ∃ q, q = min r.2.1.2.1 14 := ⟨_, rfl⟩
      rw [← hq1] at m1
      have g1 := m1.len
      repeat' (first | ((apply aV 24; refine JL_o (by exact aB en24 rfl (nD _ r.2.1.1 q1 r.2.1.2.2 (x.2.1.take 14) (m1.st hs) (by omega))) rfl rfl ?_; rintro _ _ ⟨a5, c5, rfl, hf⟩; have hs := hs.fresh hf; (try simp only [zcc] at hs))) | ((apply aH (t := 82); refine JL_o (by apply dW; exact gC (xs := encL cU ro) (news := cU (r.1, (a5, q1, c5), r.2.2)) hs rfl rfl (vJ (r := (r.1, (a5, q1, c5), r.2.2)) (hs.blk (b := b81))) fN rfl (by omega) (by unfold maxLen; omega)) rfl rfl ?_; rintro _ _ ⟨a8, c8, rfl, hs, hF, hnil⟩)) | (apply aU) | ((apply aK); (first | (apply dY; exact eM (q := q1) rfl rfl (by omega) (by omega) aA) | (apply aX; first | exact aW hs rfl rfl aA | exact aI hs rfl aA | exact bF (hre.st hs) hrx rfl rfl aA) | (apply aQ; exact aJ rfl aA) | (apply aS; first | exact aN rfl rfl aA | exact bJ rfl rfl aA) | (apply cO; exact bT rfl rfl (by omega) (by first | (simp only [Int.reduceAdd]; exact rfl) | exact rfl) aA) | (apply aL; exact aM rfl rfl rfl aA) | (apply bO; exact bZ rfl aA) | (apply oS; exact sF rfl rfl aA) | (apply aP; exact aO rfl rfl (by omega) (by omega) aA)); first | (exact rfl; exact rfl) | exact rfl) | (apply bC) | (apply aG) | (apply bD) | (apply bP) | (apply bK) | (apply aH (t := 7); refine JL_o (by apply bA; exact aR hs) rfl rfl ?_; rintro _ _ ⟨b7, rfl, hb7, hs, hE⟩) | (apply aH (t := 81); refine JL_o (by apply dA; exact cS hs rfl (by omega) rfl) rfl rfl ?_; rintro _ _ ⟨b81, rfl, hb81, hs, hE⟩) | (apply bI; refine JL_u (by apply bB; exact aY hs rfl rfl rfl) rfl ?_; rintro _ _ ⟨hs, hF⟩) | (apply aT; refine bH rfl ob ?_))
      have hcc : encL cU ro ++ cU (r.1, (a5, q1, c5), r.2.2) = encL cU (ro ++ [(r.1, (a5, q1, c5), r.2.2)]) := by rw [jD]; simp [encL]
      rw [show encL cU ro ++ cU (r.1, (a5, q1, c5), r.2.2) = encL cU (ro ++ [(r.1, (a5, q1, c5), r.2.2)]) from hcc] at hs
      have hs : St w NoF _ [_, _, _, _, _, _, _, _] := hs.sel [1, 4, 3, 5, 6, 7, 8, 9] (by decide)
      have hs := St.pushOwn hs g1.symm r.1 r.2.2 (by rw [e1]; exact o1) (by rw [e3]; exact o2) (fun u hu => o3 u (List.mem_of_mem_take hu))
      have hce : (r.1, x.2.1.take 14, r.2.2) = cutE x := by unfold cutE; rw [e1, e3]
      have htk : (E1.take j).map cutE ++ [cutE x] = (E1.take (j + 1)).map cutE := by rw [List.take_add_one, hx, List.map_append]; rfl
      rw [hce, htk] at hs
      refine ih (j + 1, ro ++ [(r.1, (a5, q1, c5), r.2.2)], a8, c8) _ _ ⟨hs.sel [1, 0, 2, 3, 4, 5, 6] (by decide), by dsimp only; omega⟩ (by dsimp only; omega) zss
    · have hkn : j = k2 := by omega
      subst hkn
      rw [List.take_of_length_le (by omega)] at hs2
      have hs : St w NoF w3 [_, _, _, _, _, _, _] := hs2
      repeat' (first | (apply aU) | ((apply aK); (first | (apply aX; exact aI hs rfl aA) | (apply aL; exact aM rfl rfl rfl aA)); first | (exact rfl; exact rfl) | exact rfl) | (apply bC) | (apply aG) | (apply cK; refine cY rfl ?_) | (apply bI; refine JL_u (by apply bB; exact aY hs rfl rfl rfl) rfl ?_; rintro _ _ ⟨hs, hF⟩) | (apply aT; refine bL rfl ob ?_))
      rw [show (N1.map cutN).length = k by rw [List.length_map, hl], show (E1.map cutE).length = j by rw [List.length_map, hl2]]
      refine aZ Tryz.func31 rfl (.agg' hs rfl rfl .nil) ⟨qs, ro, a', a4, c', c4, ⟨hqm, hqo⟩, rfl, (hs.sel [2, 3, 0, 1] (by decide)).out (List.Sublist.refl _)⟩
end Go.Eng
end
section
namespace Go.Eng
open Go.Proofs
set_option linter.unusedSimpArgs false
set_option linter.unusedVariables false
attribute [local irreducible] Hold J JL JD JX JXat OpR OpG Ret RetV Is Blk Row
set_option maxRecDepth 100000
set_option maxHeartbeats 2000000
end Go.Eng
end
section
namespace Go.Eng
open Go.Proofs
set_option linter.unusedSimpArgs false
set_option linter.unusedVariables false
theorem vW {A : List NM} (g : GR A) {p q : Nat} {x y : NM} {id : Int} {plus : Bool} (hx : A[p]? = some x) (hu : x.1 = true) (hy : A[q]? = some y) (hyu : y.1 = true) (hyt : y.2.1 = gX plus x.2.1 id) (hm : id ∈ x.2.1 ↔ plus = false) :
    goC A ((p : Int) + 1) id plus = 0 ∧ gon A ((p : Int) + 1) id plus = (q : Int) + 1 ∧ goL A ((p : Int) + 1) id plus = fW A (loP plus p q) (hiP plus p q) id := by
  have ht : eF (gX plus x.2.1 id) = true := by rw [← hyt]; exact g.typ q y hy hyu
  have hfn : gY A (gX plus x.2.1 id) = q + 1 := by rw [← hyt]; exact vX hy hyu (fun i z hz hz1 e => g.uniq i q z y hz hy hz1 hyu e)
  have hoc : ofC A (gX plus x.2.1 id) = 0 := by unfold ofC; rw [if_pos ht, if_pos (by omega)]
  have hol : ofL A (gX plus x.2.1 id) = A := by unfold ofL; rw [if_pos hoc, if_pos (by omega)]
  have hon : ofn A (gX plus x.2.1 id) = q + 1 := by unfold ofn; rw [if_pos hoc, if_pos (by omega), hfn]
  have hnd : dT A ((p : Int) + 1) = x := dM hx
  have hi : isM A ((p : Int) + 1) = true := isM_true.2 ⟨p, x, rfl, hx, hu⟩
  have hc : goC A ((p : Int) + 1) id plus = 0 := by
    unfold goC
    rw [hi, if_pos rfl, hnd]
    cases plus with
    | true =>
      have hn : id ∉ x.2.1 := fun e => by have := hm.1 e; cases this
      have ht2 := typeB_iff.1 ht
      have hmay : mayM id = true := ht2.2.2 id (wiT_mem.2 (.inl rfl))
      have hl : x.2.1.length ≠ 12 := fun e => by
        have h1 := ht2.1
        have h2 : (gX true x.2.1 id).length = x.2.1.length + 1 := nL hn
        omega
      rw [if_pos rfl, hmay, if_pos rfl, if_neg hn, if_neg hl]
      exact hoc
    | false =>
      rw [if_neg (by decide), if_pos (hm.2 rfl)]
      exact hoc
  have hst : mS A ((p : Int) + 1) id plus = false := by
    unfold mS
    rw [hnd]
    cases plus with
    | true => rw [decide_eq_false (fun e => by have := hm.1 e; cases this)]; rfl
    | false => rfl
  have hT : goT A ((p : Int) + 1) id plus = gX plus x.2.1 id := by unfold goT; rw [hnd]
  have hQ : goQ A ((p : Int) + 1) id plus = q + 1 := by unfold goQ; rw [hT, hon]
  have e1 : ((p : Int) + 1 - 1).toNat = p := by omega
  refine ⟨hc, ?_, ?_⟩
  · unfold gon; rw [if_pos hc, hst, if_neg (by decide), hQ]; omega
  · unfold goL
    rw [if_pos hc, hst, if_neg (by decide), hT, hQ, e1, Nat.add_sub_cancel, hol]
    cases plus <;> rfl
theorem xO {N : List NM} {n id : Int} (g : GR N) (h : goC N n id true = 0) :
    ∃ (p : Nat) (x : NM), n = (p : Int) + 1 ∧ N[p]? = some x ∧ x.1 = true ∧
      ((id ∈ x.2.1 ∧ goL N n id true = N ∧ gon N n id true = n) ∨
       (id ∉ x.2.1 ∧ ∃ (q : Nat) (A : List NM) (x' y' : NM), goL N n id true = A ∧ A[p]? = some x' ∧ x'.1 = true ∧ x'.2.1 = x.2.1 ∧ A[q]? = some y' ∧ y'.1 = true ∧ y'.2.1 = wiT x.2.1 id ∧ gon N n id true = (q : Int) + 1 ∧
         (goC A ((q : Int) + 1) id false = 0 ∧ gon A ((q : Int) + 1) id false = n ∧ goL A ((q : Int) + 1) id false = A) ∧ (goC A n id true = 0 ∧ gon A n id true = (q : Int) + 1 ∧ goL A n id true = A))) := by
  rcases oO g h with ⟨hs, _, hmy, p, x, hn, hx, hu, hm⟩ | ⟨hs, p, q, x, y, hg⟩
  · exact ⟨p, x, hn, hx, hu, .inl ⟨hm, by unfold goL; rw [if_pos h, if_pos hs], by unfold gon; rw [if_pos h, if_pos hs]⟩⟩
  · have hno : id ∉ x.2.1 := fun e => by have := hg.mem.1 e; cases this
    obtain ⟨hL, hq⟩ := hg.goL h hs
    obtain ⟨hne, gA, _⟩ := hg.facts g
    have hL : goL N n id true = fW (ofL N (wiT x.2.1 id)) p q id := hL
    have hne : p ≠ q := hne
    have gA : GR (fW (ofL N (wiT x.2.1 id)) p q id) := gA
    have hr := (typeB_iff.1 (g.typ p x hg.hx hg.xu)).2.1
    have hp : (ofL N (wiT x.2.1 id))[p]? = some x := hg.hp'
    have hy : (ofL N (wiT x.2.1 id))[q]? = some y := hg.hy
    obtain ⟨B, hB⟩ : ∃ B, B = ofL N (wiT x.2.1 id) := ⟨_, rfl⟩
    rw [← hB] at hL gA hp hy
    have hA1 := iO (id := id) hy hp hne p
    rw [if_pos rfl] at hA1
    have hA2 := iO (id := id) hy hp hne q
    rw [if_neg (fun e => hne e.symm), if_pos rfl] at hA2
    have hag := wY gA hy hp hne
    obtain ⟨A, hA⟩ : ∃ A, A = fW B p q id := ⟨_, rfl⟩
    rw [← hA] at hL gA hA1 hA2 hag
    have hyt : y.2.1 = wiT x.2.1 id := hg.yt
    have f1 := vW (plus := true) gA hA1 hg.xu hA2 hg.yu hyt ⟨fun e => absurd e hno, fun e => by cases e⟩
    have f2 := vW (plus := false) gA hA2 hg.yu hA1 hg.xu (by show x.2.1 = outT y.2.1 id; rw [hyt, yS hr hno]) ⟨fun _ => rfl, fun _ => by show id ∈ y.2.1; rw [hyt]; exact wiT_mem.2 (.inl rfl)⟩
    refine ⟨p, x, hg.np, hg.hx, hg.xu, .inr ⟨hno, q, A, _, _, hL, hA1, hg.xu, rfl, hA2, hg.yu, hyt, hq, ?_, ?_⟩⟩
    · exact ⟨f2.1, by rw [hg.np]; exact f2.2.1, f2.2.2.trans hag⟩
    · rw [hg.np]; exact ⟨f1.1, f1.2.1, f1.2.2.trans hag⟩
theorem getD_neG {α : Type} [DecidableEq α] {xs ys : List α} {k : Nat} {x y : α} (hx : xs[k]? = some x) (hy : ys[k]? = some y) (h : ¬ x = y) : decide (xs = ys) = false := decide_eq_false fun e => h (by subst e; rw [hx] at hy; exact Option.some.inj hy)
theorem zP {α : Type} (l : List α) (f g : α → Bool) (h : ∀ x, f x = true → g x = false) : (l.filter f).length + (l.filter g).length ≤ l.length := by
  induction l with
  | nil => exact Nat.le_refl _
  | cons x l ih =>
    rw [List.filter_cons, List.filter_cons]
    cases hf : f x with
    | true =>
      rw [h x hf, if_pos rfl, if_neg (by decide), List.length_cons, List.length_cons]
      omega
    | false =>
      rw [if_neg (by decide)]
      cases hg : g x with
      | true => rw [if_pos rfl, List.length_cons, List.length_cons]; omega
      | false => rw [if_neg (by decide), List.length_cons]; omega
theorem wiT_le (l : List Int) (id : Int) : (wiT l id).length ≤ l.length + 1 := by
  have := zP l (fun x => decide (x < id)) (fun x => decide (id < x)) (fun x hx => decide_eq_false (by have := of_decide_eq_true hx; omega))
  unfold wiT
  rw [List.length_append, List.length_cons]
  omega
theorem wiS_le (l : List ST) (s : ST) : (wiS l s).length ≤ l.length + 1 := by
  have := zP l (fun x => decide (x.1 < s.1)) (fun x => decide (s.1 < x.1)) (fun x hx => decide_eq_false (by have := of_decide_eq_true hx; omega))
  unfold wiS
  rw [List.length_append, List.length_cons]
  omega
def bndN (b : Nat) (N : List NM) : Prop := ∀ x ∈ N, x.2.1.length ≤ b ∧ x.2.2.1.length ≤ b ∧ x.2.2.2.length ≤ b
theorem tiny.bnd {k : Nat} {N : List NM} (h : tiny k N) (hk : k ≤ 1000) : bndN 1020 N := fun x hx => by
  obtain ⟨h1, h2, h3⟩ := h.2 x hx
  exact ⟨by omega, by omega, by omega⟩
theorem bndN.sz {b : Nat} {N : List NM} (h : bndN b N) (hb : b ≤ 1000000) : szN N := fun x hx => by
  obtain ⟨h1, h2, h3⟩ := h x hx
  exact ⟨by omega, by omega, by omega⟩
theorem bndN.at {b : Nat} {N : List NM} (h : bndN b N) (i : Nat) : (N.getD i n0).2.1.length ≤ b ∧ (N.getD i n0).2.2.1.length ≤ b ∧ (N.getD i n0).2.2.2.length ≤ b := by
  rw [List.getD_eq_getElem?_getD]
  cases hx : N[i]? with
  | none => exact ⟨Nat.zero_le _, Nat.zero_le _, Nat.zero_le _⟩
  | some x => exact h x (List.mem_of_getElem? hx)
theorem bndN.of {b : Nat} {N : List NM} (h : bndN b N) {T : List Int} (hT : T.length ≤ b) : bndN b (ofL N T) := fun x hx => by
  unfold ofL at hx
  split at hx
  · split at hx
    · exact h x hx
    · obtain ⟨i, hi⟩ := List.mem_iff_getElem?.1 hx
      rw [jV (gH N)] at hi
      split at hi
      · cases hi; exact ⟨hT, Nat.zero_le _, Nat.zero_le _⟩
      · exact h x (List.mem_of_getElem? hi)
  · cases hx
theorem bndN.link {b : Nat} {N : List NM} (h : bndN b N) (lo hi : Nat) (id : Int) : bndN (b + 1) (fW N lo hi id) := fun x hx => by
  unfold fW at hx
  obtain ⟨a1, a2, a3⟩ := h.at lo
  obtain ⟨b1, b2', b3⟩ := h.at hi
  rcases List.mem_or_eq_of_mem_set hx with hx | hx
  · rcases List.mem_or_eq_of_mem_set hx with hx | hx
    · obtain ⟨c1, c2, c3⟩ := h x hx
      exact ⟨by omega, by omega, by omega⟩
    · rw [hx]
      exact ⟨Nat.le_succ_of_le b1, Nat.le_succ_of_le b2', Nat.le_trans (wiS_le _ _) (by omega)⟩
  · rw [hx]
    exact ⟨Nat.le_succ_of_le a1, Nat.le_trans (wiS_le _ _) (by omega), Nat.le_succ_of_le a3⟩
theorem bndN.mono {b c : Nat} {N : List NM} (h : bndN b N) (hc : b ≤ c) : bndN c N := fun x hx => by
  obtain ⟨h1, h2, h3⟩ := h x hx
  exact ⟨by omega, by omega, by omega⟩
theorem bndN.go {b : Nat} {N : List NM} (h : bndN b N) (n id : Int) (plus : Bool) : bndN (b + 2) (goL N n id plus) := by
  have hT : (goT N n id plus).length ≤ b + 1 := by
    have h1 := (h.at (n - 1).toNat).1
    unfold goT dT
    cases plus with
    | true => exact Nat.le_trans (wiT_le _ _) (by omega)
    | false => exact Nat.le_trans (vP _ _) (by omega)
  have h2 := (h.mono (Nat.le_succ b)).of hT
  unfold goL
  split
  · split
    · exact h.mono (by omega)
    · split
      · exact h2.link _ _ _
      · exact h2.link _ _ _
  · exact fun x hx => by cases hx
theorem go_sz {k : Nat} {N : List NM} (h : tiny k N) (hk : k ≤ 1000) (n id : Int) (plus : Bool) : szN (goL N n id plus) := ((h.bnd hk).go n id plus).sz (by omega)
theorem go_len {N : List NM} {n id : Int} {plus : Bool} {b : Nat} (h : N.length ≤ b) : (goL N n id plus).length ≤ b + 1 := by
  have h2 : ∀ T, (ofL N T).length ≤ b + 1 := fun T => by
    unfold ofL
    split
    · split
      · omega
      · rw [rN (gH N)]
        have := gH N
        split <;> omega
    · exact Nat.zero_le _
  unfold goL
  split
  · split
    · omega
    · split
      · rw [lN]; exact h2 _
      · rw [lN]; exact h2 _
  · exact Nat.zero_le _
end Go.Eng
end
