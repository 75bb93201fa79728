/- The texts G21, G20, G22, G23, G24, G25, G26, G27, G31, E19, GS, G37, G38, G39, G40, joined: what of them serves. -/
import Derived.Test.YtcoldgkhlkjjmaaGreatO4
import Derived.Shelf.SlSortCmp.Whole1
import Derived.Shelf.SlSortCmp.NoneTotal
import Derived.Ground.SlsfProg
import Derived.Shelf.SlLaysF
section
namespace Go.Eng
open Go.Proofs
set_option linter.unusedSimpArgs false
set_option linter.unusedVariables false
theorem vN {qs : List QN} {k : Nat} {q : QN} (h : qs[k]? = some q) : qs = qs.take k ++ q :: qs.drop (k + 1) := by
  have hk := (List.getElem?_eq_some_iff.1 h).1
  conv => lhs; rw [← List.take_append_drop k qs, List.drop_eq_getElem_cons hk, (List.getElem?_eq_some_iff.1 h).2]
theorem vE {qs : List QN} {k : Nat} (qn : QN) (hk : k < qs.length) : qs.set k qn = qs.take k ++ qn :: qs.drop (k + 1) := by
  conv => lhs; rw [← List.take_append_drop k qs, List.drop_eq_getElem_cons hk]
  have hl : (qs.take k).length = k := by rw [List.length_take]; omega
  rw [List.set_append_right _ _ (by omega), hl, Nat.sub_self, List.set_cons_zero]
section
variable {w0 w : World} {F : Nat → Prop} {L : List HP}
theorem St.takeN {qs : List QN} {k : Nat} {q : QN} (hq : qs[k]? = some q) (h : St w0 F w (OwnN qs :: L)) : St w0 F w (rowN q :: OwnN (qs.take k ++ qs.drop (k + 1)) :: L) := by
  rw [vN hq] at h
  have := St.outN h
  exact this
theorem St.putN {qs : List QN} {k : Nat} {qn : QN} (hk : k < qs.length) (h : St w0 F w (rowN qn :: OwnN (qs.take k ++ qs.drop (k + 1)) :: L)) : St w0 F w (OwnN (qs.set k qn) :: L) := by
  rw [vE qn hk]
  exact St.inN h
theorem St.replN {qs : List QN} {k : Nat} {q qn : QN} (hq : qs[k]? = some q) (h : St w0 F w (rowN qn :: OwnN qs :: L)) : St w0 F w (OwnN (qs.set k qn) :: L) := by
  have h1 : St w0 F w (OwnN qs :: rowN qn :: L) := h.perm (.swap _ _ _)
  have h2 := St.takeN hq h1
  have h3 : St w0 F w (rowN qn :: OwnN (qs.take k ++ qs.drop (k + 1)) :: L) := (h2.sub (List.sublist_cons_self _ _)).perm (.swap _ _ _)
  exact St.putN (List.getElem?_eq_some_iff.1 hq).1 h3
theorem St.zeroN (b : Bool) (h : St w0 F w L) : St w0 F w (rowN (b, (z0, []), (z0, []), (z0, [])) :: L) := by
  have h1 := ((h.nilRow 93 2).nilRow 93 2).nilRow 29 1
  exact St.packN (q := (b, (z0, []), (z0, []), (z0, []))) h1
end
theorem uE (b : Bool) : okN (b, (z0, []), (z0, []), (z0, [])) := ⟨⟨rfl, fun x h => by cases h⟩, ⟨rfl, fun x h => by cases h⟩, ⟨rfl, fun x h => by cases h⟩⟩
def GOut (w w' : World) (N' : List NM) (a' : Option Addr) (m' c' : Nat) (a2' : Option Addr) (m2 c2 : Nat) : Prop :=
  ∃ (qs : List QN) (es : List Ent) (rs' : List REnt), (qs.map iG = N' ∧ ∀ q ∈ qs, okN q) ∧ (dD es = true ∧ allM es = fC N') ∧ (N'.length = m' ∧ es.length = m2 ∧ m2 ≤ 1048576) ∧ Fresh w w' [TabN a' m' c' (qs.map rawN), OwnN qs, dH a2' m2 c2 rs', Own rs' es]
theorem vG {N : List NM} {E : List Ent} (h : eG N E = true) {t : List Int} (ht : dR t = true) (hf : fT N t = 0) {v : Int} (hv : 0 ≤ v) : putE E t v = if fR N = 4000 then 6 else 0 := by
  obtain ⟨g, hc, hA⟩ := check_iff.1 h
  have h1 := mG h t
  rw [hf, decide_eq_false (fun e => e rfl)] at h1
  have hp : ¬ 0 ≤ fG E t := fun hp => by
    unfold jI at h1
    rw [if_pos hc, if_neg (by omega)] at h1
    have := congrArg Prod.snd h1
    cases this
  unfold putE
  rw [if_pos hc, if_pos ht, if_neg (by omega), if_neg hp, hA, gU]
theorem uC {N : List NM} {E es : List Ent} (h : eG N E = true) {t : List Int} (hf : fT N t = 0) (hc : dD es = true) (hp : (es.filter dW).Perm (allM E ++ [(1, t, (eY N : Int) + 1)])) : allM es = fC (setN N (eY N) (newN t)) := by
  obtain ⟨g, hcE, hA⟩ := check_iff.1 h
  refine yY hc (qD g.uniq hf) fun e => ?_
  rw [hp.mem_iff, List.mem_append, List.mem_singleton, uA, hA]
theorem jH {E : List Ent} (h : dD E = true) : LMax E := fun x hx => by have := lX h hx; omega
attribute [local irreducible] Hold J JL JD JX JXat OpR OpG Ret RetV Is Blk Row
set_option maxRecDepth 100000
set_option maxHeartbeats 2000000
theorem gof_r (w : World) (a a2 a3 : Option Addr) (n c n2 c2 n3 c3 : Nat) (N : List NM) (E : List Ent) (t : List Int) (h : Sl jD All w a n c N) (hE0 : Sl dEnt All w a2 n2 c2 E) (ht : Sl dId All w a3 n3 c3 t) (hn : n ≤ 900000) (hn2 : n2 ≤ 1048576) (hz : szN N) (hc : eG N E = true) :
    Ret Tryz.prog 99 #[.agg #[.slice a n c, .slice a2 n2 c2], .slice a3 n3 c3] w fun v w' =>
      (ofC N t ≠ 0 ∧ v = .tuple #[.agg #[.slice none 0 0, .slice none 0 0], .int .i64 0, .int .i64 (ofC N t)] ∧ Ext w w') ∨
      (ofC N t = 0 ∧ ∃ a' m' c' a2' m2 c2', v = .tuple #[.agg #[.slice a' m' c', .slice a2' m2 c2'], .int .i64 (ofn N t), .int .i64 0] ∧ m' ≤ n + 1 ∧ GOut w w' (ofL N t) a' m' c' a2' m2 c2') := by
  refine cG (l := [_, _]) Tryz.func99 rfl Tryz.ntmps99 (by simp) ?_
  have hs := St.init w
  have hl := h.len
  have hl2 := hE0.len
  have hto := mO ht
  have htl := ht.len
  obtain ⟨g, hcE, hA⟩ := check_iff.1 hc
  have hfg := mG hc t
  obtain ⟨tb, htb⟩ : ∃ b, dR t = b := ⟨_, rfl⟩
  obtain ⟨f1, hf1⟩ : ∃ f, fT N t = f := ⟨_, rfl⟩
  rw [hf1] at hfg
  cases tb with
  | false =>
    have e1 : ofC N t = 130 := by unfold ofC; rw [htb]; rfl
    rw [e1]
    repeat' (first | ((apply aW 59; refine JL_o (by exact aC en59 rfl (dL _ a3 n3 c3 t (ht.st hs))) rfl rfl ?_; rintro _ _ ⟨rfl, hE⟩; rw [htb]; have hs := hs.ext hE; (try simp only [zcc] at hs))) | (apply aR) | ((apply aI); (first | (apply aQ; exact aH rfl aA) | (apply aF; exact aB rfl aA) | (apply aK; exact aM rfl rfl rfl aA) | (apply cY; exact cL rfl (by (simp only [bld, cQ, bQ, Value.cells, List.take_succ_cons, List.take_zero, List.drop_succ_cons, List.drop_zero, List.cons_append, List.nil_append, List.length_cons, List.length_nil, List.getElem?_cons_zero, List.getElem?_cons_succ, Option.map_some, List.append_nil, Nat.reduceAdd, Nat.reduceMul, Nat.zero_add, Nat.reduceLeDiff, and_self, if_true, List.toList_toArray, Nat.le_refl, Nat.zero_mul, Nat.one_mul]; first | done | rfl)) aA)); first | (exact rfl; exact rfl) | exact rfl) | (apply bB) | (apply aG) | (apply aL (t := 2); refine JL_o (by apply cD; exact bG hs rfl) rfl rfl ?_; rintro _ _ ⟨b2, rfl, hb2, hs, hE⟩) | (apply aL (t := 4); refine JL_o (by apply bE; exact aX hs) rfl rfl ?_; rintro _ _ ⟨b4, rfl, hb4, hs, hE⟩) | (apply bH; refine JL_u (by apply bA; exact aZ hs rfl rfl rfl) rfl ?_; rintro _ _ ⟨hs, hF⟩) | (apply aS; refine bZ rfl gb ?_))
    refine aY Tryz.func99 rfl (.agg' hs rfl rfl (.tmp rfl (.tmp rfl .nil))) (.inl ⟨by decide, rfl, hs.frm.ext⟩)
  | true =>
  by_cases hf0 : f1 = 0
  rotate_left
  · have hfne : fT N t ≠ 0 := by omega
    have e1 : ofC N t = 0 := by unfold ofC; rw [htb, if_pos rfl, if_pos hfne]
    have e2 : ofL N t = N := by unfold ofL; rw [if_pos e1, if_pos hfne]
    have e3 : ofn N t = f1 := by unfold ofn; rw [if_pos e1, if_pos hfne, hf1]
    have hfd : decide (f1 ≠ 0) = true := decide_eq_true hf0
    rw [hfd] at hfg
    rw [e1, e2, e3]
    repeat' (first | ((apply aW 59; refine JL_o (by exact aC en59 rfl (dL _ a3 n3 c3 t (ht.st hs))) rfl rfl ?_; rintro _ _ ⟨rfl, hE⟩; rw [htb]; have hs := hs.ext hE; (try simp only [zcc] at hs))) | ((apply aW 119; refine JL_o (by exact aC qQ rfl (lU _ a2 n2 c2 E a3 n3 c3 t (hE0.st hs) hn2 (ht.st hs))) rfl rfl ?_; rintro _ _ ⟨rfl, hE⟩; rw [hfg]; have hs := hs.ext hE; (try simp only [zcc] at hs))) | ((apply aW 107; refine JL_o (by exact aC yK rfl (rZ _ a a2 n c n2 c2 N E (h.st hs) (hE0.st hs) (by omega) hn2 hz (jH hcE))) rfl rfl ?_; rintro _ _ ⟨qs, rs', a', a2', ⟨hqm, hqo⟩, rfl, hf⟩; have hs := hs.fresh hf; (try simp only [zcc] at hs))) | (apply aR) | ((apply aI); (first | (apply aQ; exact aH rfl aA) | (apply aF; exact aB rfl aA) | (apply aT; exact aP rfl rfl aA) | (apply aV; exact aJ hs rfl aA) | (apply aK; exact aM rfl rfl rfl aA) | (apply bS; exact bM rfl rfl aA)); first | (exact rfl; exact rfl) | exact rfl) | (apply bB) | (apply aG) | (apply bJ) | (apply aL (t := 2); refine JL_o (by apply cD; exact bG hs rfl) rfl rfl ?_; rintro _ _ ⟨b2, rfl, hb2, hs, hE⟩) | (apply aL (t := 4); refine JL_o (by apply bE; exact aX hs) rfl rfl ?_; rintro _ _ ⟨b4, rfl, hb4, hs, hE⟩) | (apply bH; refine JL_u (by apply bA; exact aZ hs rfl rfl rfl) rfl ?_; rintro _ _ ⟨hs, hF⟩) | (apply aS; first | refine bZ rfl gb ?_ | refine bV rfl gb ?_))
    refine aY Tryz.func99 rfl (.agg' hs rfl rfl (.tmp rfl (.tmp rfl .nil))) (.inr ⟨rfl, a', n, n, a2', n2, n2, rfl, by omega, qs, E, rs', ⟨hqm, hqo⟩, ⟨hcE, hA⟩, ⟨hl, hl2, hn2⟩, hs.out (by simp)⟩)
  have hfz : fT N t = 0 := by omega
  have hfd : decide (f1 ≠ 0) = false := decide_eq_false (fun e => e hf0)
  rw [hfd] at hfg
  repeat' (first | ((apply aW 59; refine JL_o (by exact aC en59 rfl (dL _ a3 n3 c3 t (ht.st hs))) rfl rfl ?_; rintro _ _ ⟨rfl, hE⟩; rw [htb]; have hs := hs.ext hE; (try simp only [zcc] at hs))) | ((apply aW 119; refine JL_o (by exact aC qQ rfl (lU _ a2 n2 c2 E a3 n3 c3 t (hE0.st hs) hn2 (ht.st hs))) rfl rfl ?_; rintro _ _ ⟨rfl, hE⟩; rw [hfg]; have hs := hs.ext hE; (try simp only [zcc] at hs))) | (apply aR) | ((apply aI); (first | (apply aQ; exact aH rfl aA) | (apply aF; exact aB rfl aA) | (apply aT; exact aP rfl rfl aA) | (apply aV; exact aJ hs rfl aA) | (apply aK; exact aM rfl rfl rfl aA) | (apply bS; exact bM rfl rfl aA)); first | (exact rfl; exact rfl) | exact rfl) | (apply bB) | (apply aG) | (apply bC) | (apply bJ) | (apply aL (t := 2); refine JL_o (by apply cD; exact bG hs rfl) rfl rfl ?_; rintro _ _ ⟨b2, rfl, hb2, hs, hE⟩) | (apply aL (t := 4); refine JL_o (by apply bE; exact aX hs) rfl rfl ?_; rintro _ _ ⟨b4, rfl, hb4, hs, hE⟩) | (apply aS; refine bV rfl gb ?_))
  refine dG (α := Nat) [(1, _), (2, _), (4, _)] (fun k => [(9, .int .i64 ((k : Int) + 1))]) (fun k w' => St w NoF w' [Blk b4 (.cells #[.slice none 0 0, .slice none 0 0] 57 (0, 0)), Blk b2 (.cells #[.slice a n c, .slice a2 n2 c2] 57 (0, 0))] ∧ k ≤ n ∧ ∀ (i : Nat) (x : NM), N[i]? = some x → i < k → x.1 = true) (fun k => n - k) 0 ⟨hs, Nat.zero_le _, fun i x _ hi => absurd hi (Nat.not_lt_zero _)⟩ zss ?_
  rintro k w2 ⟨hs1, hk, hall⟩ ih
  have hs : St w NoF w2 [_, _] := hs1
  have hki : inK .i64 ((k : Int) + 1) := by unfold inK; simp only [IntKind.min, IntKind.max, IntKind.bits, IntKind.signed]; omega
  by_cases hgo : isM N ((k : Int) + 1) = true
  · obtain ⟨j, y, hj, hy, hyu⟩ := isM_true.1 hgo
    have hjk : j = k := by omega
    subst hjk
    have hjl := (List.getElem?_eq_some_iff.1 hy).1
    repeat' (first | ((apply aW 105; refine JL_o (by exact aC eT rfl (is_r _ a a2 n c n2 c2 N ((j : Int) + 1) (h.st hs) hki)) rfl rfl ?_; rintro _ _ ⟨rfl, hE⟩; rw [hgo]; have hs := hs.ext hE; (try simp only [zcc] at hs))) | (apply aR) | ((apply aI); (first | (apply aV; first | exact aU hs rfl rfl aA | exact aJ hs rfl aA) | (apply aQ; exact aH rfl aA) | (apply aF; exact aB rfl aA) | (apply cJ; exact bR rfl rfl (by omega) (by first | (simp only [Int.reduceAdd]; exact rfl) | exact rfl) aA)); first | (exact rfl; exact rfl) | exact rfl) | (apply bB) | (apply aG) | (apply bC) | (apply bN) | (apply bJ) | (apply aS; refine bZ rfl gb ?_))
    refine ih (j + 1) _ _ ⟨hs, by omega, fun i x hx hi => ?_⟩ (by omega) zss
    by_cases e : i = j
    · subst e; rw [hy] at hx; cases hx; exact hyu
    · exact hall i x hx (by omega)
  have hgo : isM N ((k : Int) + 1) = false := by simpa using hgo
  have hfk : eY N = k := vO (by omega) hall (fun x hx => by
    cases hxu : x.1 with
    | false => rfl
    | true => rw [isM_true.2 ⟨k, x, rfl, hx, hxu⟩] at hgo; cases hgo)
  have hput := vG (v := (k : Int) + 1) hc htb hfz (by omega)
  by_cases hmu : fR N = 4000
  · have e1 : ofC N t = 6 := by unfold ofC; rw [htb, if_pos rfl, if_neg (fun e => e hfz), if_pos hmu]
    rw [if_pos hmu] at hput
    rw [e1]
    repeat' (first | ((apply aW 105; refine JL_o (by exact aC eT rfl (is_r _ a a2 n c n2 c2 N ((k : Int) + 1) (h.st hs) hki)) rfl rfl ?_; rintro _ _ ⟨rfl, hE⟩; rw [hgo]; have hs := hs.ext hE; (try simp only [zcc] at hs))) | ((apply aW 132; refine JL_o (by exact aC en132 rfl (put_bad _ a2 n2 c2 E a3 n3 c3 t ((k : Int) + 1) (hE0.st hs) hn2 (ht.st hs) hki (by rw [hput]; decide))) rfl rfl ?_; rintro _ _ ⟨rfl, hE⟩; rw [hput]; have hs := hs.ext hE; (try simp only [zcc] at hs))) | (apply aR) | ((apply aI); (first | (apply aV; first | exact aU hs rfl rfl aA | exact aJ hs rfl aA) | (apply aQ; exact aH rfl aA) | (apply aF; exact aB rfl aA) | (apply aT; exact aP rfl rfl aA) | (apply aK; exact aM rfl rfl rfl aA) | (apply bS; exact bM rfl rfl aA) | (apply cY; exact cL rfl (by (simp only [bld, cQ, bQ, Value.cells, List.take_succ_cons, List.take_zero, List.drop_succ_cons, List.drop_zero, List.cons_append, List.nil_append, List.length_cons, List.length_nil, List.getElem?_cons_zero, List.getElem?_cons_succ, Option.map_some, List.append_nil, Nat.reduceAdd, Nat.reduceMul, Nat.zero_add, Nat.reduceLeDiff, and_self, if_true, List.toList_toArray, Nat.le_refl, Nat.zero_mul, Nat.one_mul]; first | done | rfl)) aA)); first | (exact rfl; exact rfl) | exact rfl) | (apply bB) | (apply aG) | (apply cI; refine cZ rfl ?_) | (apply aL (t := 10); refine JL_o (by apply bE; exact aX hs) rfl rfl ?_; rintro _ _ ⟨b10, rfl, hb10, hs, hE⟩) | (apply bH; refine JL_u (by apply bA; exact aZ hs rfl rfl rfl) rfl ?_; rintro _ _ ⟨hs, hF⟩) | (apply aS; first | refine bF rfl ob ?_ | refine bV rfl gb ?_))
    refine aY Tryz.func99 rfl (.agg' hs rfl rfl (.tmp rfl (.tmp rfl .nil))) (.inl ⟨by decide, rfl, hs.frm.ext⟩)
  have e1 : ofC N t = 0 := by unfold ofC; rw [htb, if_pos rfl, if_neg (fun e => e hfz), if_neg hmu]
  have e2 : ofL N t = setN N (eY N) (newN t) := by unfold ofL; rw [if_pos e1, if_neg (fun e => e hfz)]
  have e3 : ofn N t = eY N + 1 := by unfold ofn; rw [if_pos e1, if_neg (fun e => e hfz)]
  rw [if_neg hmu] at hput
  rw [e1, e2, e3, hfk]
  have ht12 := (typeB_iff.1 htb).1
  have ik : ((k : Int) + 1 - 1).toNat = k := by omega
  by_cases hkn : k = n
  · have hgt : (k : Int) + 1 > n := by omega
    have hbnd : 0 ≤ (k : Int) + 1 - 1 ∧ (k : Int) + 1 - 1 < (n + 1 : Nat) := by omega
    repeat' (first | ((apply aW 105; refine JL_o (by exact aC eT rfl (is_r _ a a2 n c n2 c2 N ((k : Int) + 1) (h.st hs) hki)) rfl rfl ?_; rintro _ _ ⟨rfl, hE⟩; rw [hgo]; have hs := hs.ext hE; (try simp only [zcc] at hs))) | ((apply aW 132; refine JL_o (by exact aC en132 rfl (xA _ a2 n2 c2 E a3 n3 c3 t ((k : Int) + 1) (hE0.st hs) hn2 (ht.st hs) hki hput)) rfl rfl ?_; rintro _ _ ⟨es1, rs1, a4, ⟨hce1, hpe1, hle1⟩, rfl, hf⟩; have hs := hs.fresh hf; (try simp only [zcc] at hs))) | ((apply aW 107; refine JL_o (by exact aC yK rfl (rZ _ a a4 n c es1.length es1.length N es1 (h.st hs) (lD hs zmm zmm) (by omega) hle1 hz (jH hce1))) rfl rfl ?_; rintro _ _ ⟨qs, rs', a', a2', ⟨hqm, hqo⟩, rfl, hf⟩; have hs := hs.fresh hf; have hql : qs.length = n := (by have := congrArg List.length hqm; rw [List.length_map] at this; omega); have hset : ∀ u : RNd, bQ (encL cNd (qs.map rawN ++ [r00])) (((k : Int) + 1 - 1).toNat * 4) (cNd u) = encL cNd (qs.map rawN ++ [u]) := (fun u => by rw [ik, qO _ _ _ (by rw [List.length_append, List.length_map, hql, hkn]; simp), List.set_append_right _ _ (by rw [List.length_map]; omega), List.length_map, hql, hkn, Nat.sub_self]; rfl); (try simp only [zcc] at hs))) | ((apply ax_c; apply kT 114; exact rfl; (intro W X hN hs; exact aC yJ rfl (kP _ a3 n3 c3 t (ht.st hs) (by omega))); (rintro _ _ _ _ ⟨a9, rfl, hf⟩; first | exact hE | exact Fresh.ext hf); rintro W X _ _ hN hs ⟨a9, rfl, hf⟩; have hs := hs.fresh hf; (try simp only [zcc] at hs); refine JX.at hs ?_)) | ((apply aL (t := 57); refine JL_o (by apply dO; exact fJ (xs := encL cNd (qs.map rawN)) (news := cNd r00) hs rfl rfl (src_blkN (r := r00) (hs.blk (b := b56))) fF rfl (by omega) (by unfold maxLen; omega)) rfl rfl ?_; rintro _ _ ⟨a6, c6, rfl, hs, hF, hnil⟩; rw [yG] at hs; obtain ⟨b, o, rfl⟩ := (hs.row a6 (n + 1) c6).some (by omega))) | ((apply bH; refine JL_u (by apply bA; exact dJ (b := b) (o := o) (off := ((k : Int) + 1 - 1).toNat * 4) (n := n + 1) (c := c6) (vs := cNd (rNew (a9, n3, n3))) hs rfl rfl rfl rfl (by simp [Value.oneCell']) (by show ((k : Int) + 1 - 1).toNat * 4 + 4 ≤ (n + 1) * 4; omega)) rfl ?_; rintro _ _ ⟨hs, hF⟩; rw [hset] at hs)) | (apply aR) | ((first | (apply aI) | (apply JX_f; exact rfl; intro W X hs)); (first | (apply aV; first | exact aU hs rfl rfl aA | exact aJ hs rfl aA) | (apply aQ; exact aH rfl aA) | (apply aF; exact aB rfl aA) | (apply aT; exact aP rfl rfl aA) | (apply dZ; exact dI rfl rfl (by omega) aA) | (apply aK; exact aM rfl rfl rfl aA) | (apply bL; exact bY rfl aA) | (apply bS; exact bM rfl rfl aA) | (apply aO; exact aN rfl rfl (by omega) (by omega) aA) | (apply cY; exact cL rfl (by (simp only [bld, cQ, bQ, Value.cells, List.take_succ_cons, List.take_zero, List.drop_succ_cons, List.drop_zero, List.cons_append, List.nil_append, List.length_cons, List.length_nil, List.getElem?_cons_zero, List.getElem?_cons_succ, Option.map_some, List.append_nil, Nat.reduceAdd, Nat.reduceMul, Nat.zero_add, Nat.reduceLeDiff, and_self, if_true, List.toList_toArray, Nat.le_refl, Nat.zero_mul, Nat.one_mul]; first | done | rfl)) aA)); first | (exact rfl; exact rfl) | exact rfl) | (apply bB) | (apply aG) | (apply cI; refine cZ rfl ?_) | (apply bJ) | (apply aL (t := 10); refine JL_o (by apply bE; exact aX hs) rfl rfl ?_; rintro _ _ ⟨b10, rfl, hb10, hs, hE⟩) | (apply aL (t := 56); refine JL_o (by apply cV; exact cO hs rfl (by omega) rfl) rfl rfl ?_; rintro _ _ ⟨b56, rfl, hb56, hs, hE⟩) | (apply bH; refine JL_u (by apply bA; exact aZ hs rfl rfl rfl) rfl ?_; rintro _ _ ⟨hs, hF⟩) | (apply aS; first | refine bF rfl ob ?_ | refine bK rfl ob ?_ | refine bV rfl gb ?_) | (apply dB; (refine dE (id := 16) [0, 1, 0, 4, 0, 16, 48, 127, 255] [(0, 0), (1, 0), (2, 0), (3, 0), (4, 0), (5, 1), (6, 0), (7, 0)] [8] hs eI (by kernel_rfl) (by kernel_rfl) (by kernel_rfl) (by kernel_rfl) (by kernel_rfl) ?_)) | (refine dA (fun W hs => ?_)) | (apply fS; case' hos => (simp only [List.map_cons, List.map_nil, List.getElem?_toArray, List.getElem?_cons_succ, List.getElem?_cons_zero]; repeat' (first | exact gZ | apply fQ))))
    obtain ⟨qn, hqn⟩ : ∃ qn : QN, qn = (true, ((a9, n3, n3), t), (z0, []), (z0, [])) := ⟨_, rfl⟩
    have hqnm : iG qn = newN t := by rw [hqn]
    have hqno : okN qn := by rw [hqn]; exact ⟨⟨htl.symm, hto⟩, ⟨rfl, fun x h => by cases h⟩, ⟨rfl, fun x h => by cases h⟩⟩
    have hs := (hs.nilRow 93 2).nilRow 93 2
    have hs := St.packN (q := (true, ((a9, n3, n3), t), (z0, []), (z0, []))) (L := [OwnN qs, _, _, _, _]) (hs.sel [2, 0, 1, 5, 4, 6, 7, 11] (by decide))
    rw [← hqn] at hs
    have hs := St.pushN hs
    have hmp : (qs ++ [qn]).map rawN = qs.map rawN ++ [rNew (a9, n3, n3)] := by rw [List.map_append, hqn]; rfl
    rw [← hmp] at hs
    have hsn : setN N k (newN t) = N ++ [newN t] := by unfold setN; rw [if_neg (by omega)]
    have hents := uC hc hfz hce1 (by rw [hfk]; exact hpe1)
    rw [hfk] at hents
    refine aY Tryz.func99 rfl (.agg' hs rfl rfl (.tmp rfl (.tmp rfl .nil))) (.inr ⟨rfl, some ⟨b, o, none⟩, n + 1, c6, a2', es1.length, es1.length, rfl, Nat.le_refl _, qs ++ [qn], es1, rs', ⟨by rw [List.map_append, hqm, hsn, ← hqnm]; rfl, fun u hu => ?_⟩, ⟨hce1, hents⟩, ⟨by rw [hsn, List.length_append, hl]; rfl, rfl, hle1⟩, (hs.sel [1, 0, 2, 3] (by decide)).out (List.Sublist.refl _)⟩)
    rcases List.mem_append.1 hu with e | e
    · exact hqo u e
    · rw [List.mem_singleton.1 e]; exact hqno
  · have hgt : ¬ (k : Int) + 1 > n := by omega
    have hbnd : 0 ≤ (k : Int) + 1 - 1 ∧ (k : Int) + 1 - 1 < n := by omega
    repeat' (first | ((apply aW 105; refine JL_o (by exact aC eT rfl (is_r _ a a2 n c n2 c2 N ((k : Int) + 1) (h.st hs) hki)) rfl rfl ?_; rintro _ _ ⟨rfl, hE⟩; rw [hgo]; have hs := hs.ext hE; (try simp only [zcc] at hs))) | ((apply aW 132; refine JL_o (by exact aC en132 rfl (xA _ a2 n2 c2 E a3 n3 c3 t ((k : Int) + 1) (hE0.st hs) hn2 (ht.st hs) hki hput)) rfl rfl ?_; rintro _ _ ⟨es1, rs1, a4, ⟨hce1, hpe1, hle1⟩, rfl, hf⟩; have hs := hs.fresh hf; (try simp only [zcc] at hs))) | ((apply aW 107; refine JL_o (by exact aC yK rfl (rZ _ a a4 n c es1.length es1.length N es1 (h.st hs) (lD hs zmm zmm) (by omega) hle1 hz (jH hce1))) rfl rfl ?_; rintro _ _ ⟨qs, rs', a', a2', ⟨hqm, hqo⟩, rfl, hf⟩; have hs := hs.fresh hf; simp only [zcc] at hs; obtain ⟨b, o, rfl⟩ := (hs.row a' n n).some (by omega); have hql : qs.length = n := (by have := congrArg List.length hqm; rw [List.length_map] at this; omega); have hset : ∀ u : RNd, bQ (encL cNd (qs.map rawN)) (((k : Int) + 1 - 1).toNat * 4) (cNd u) = encL cNd ((qs.map rawN).set k u) := (fun u => by rw [ik]; exact qO _ k u (by rw [List.length_map]; omega)); (try simp only [zcc] at hs))) | ((apply ax_c; apply kT 114; exact rfl; (intro W X hN hs; exact aC yJ rfl (kP _ a3 n3 c3 t (ht.st hs) (by omega))); (rintro _ _ _ _ ⟨a9, rfl, hf⟩; first | exact hE | exact Fresh.ext hf); rintro W X _ _ hN hs ⟨a9, rfl, hf⟩; have hs := hs.fresh hf; (try simp only [zcc] at hs); refine JX.at hs ?_)) | ((apply bH; refine JL_u (by apply bA; exact dJ (b := b) (o := o) (off := ((k : Int) + 1 - 1).toNat * 4) (n := n) (c := n) (vs := cNd (rNew (a9, n3, n3))) hs rfl rfl rfl rfl (by simp [Value.oneCell']) (by show ((k : Int) + 1 - 1).toNat * 4 + 4 ≤ n * 4; omega)) rfl ?_; rintro _ _ ⟨hs, hF⟩; rw [hset] at hs)) | (apply aR) | ((first | (apply aI) | (apply JX_f; exact rfl; intro W X hs)); (first | (apply aV; first | exact aU hs rfl rfl aA | exact aJ hs rfl aA) | (apply aQ; exact aH rfl aA) | (apply aF; exact aB rfl aA) | (apply aT; exact aP rfl rfl aA) | (apply dZ; exact dI rfl rfl (by omega) aA) | (apply aK; exact aM rfl rfl rfl aA) | (apply bL; exact bY rfl aA) | (apply bS; exact bM rfl rfl aA) | (apply aO; exact aN rfl rfl (by omega) (by omega) aA) | (apply cY; exact cL rfl (by (simp only [bld, cQ, bQ, Value.cells, List.take_succ_cons, List.take_zero, List.drop_succ_cons, List.drop_zero, List.cons_append, List.nil_append, List.length_cons, List.length_nil, List.getElem?_cons_zero, List.getElem?_cons_succ, Option.map_some, List.append_nil, Nat.reduceAdd, Nat.reduceMul, Nat.zero_add, Nat.reduceLeDiff, and_self, if_true, List.toList_toArray, Nat.le_refl, Nat.zero_mul, Nat.one_mul]; first | done | rfl)) aA)); first | (exact rfl; exact rfl) | exact rfl) | (apply bB) | (apply aG) | (apply cI; refine cZ rfl ?_) | (apply bJ) | (apply aL (t := 10); refine JL_o (by apply bE; exact aX hs) rfl rfl ?_; rintro _ _ ⟨b10, rfl, hb10, hs, hE⟩) | (apply bH; refine JL_u (by apply bA; exact aZ hs rfl rfl rfl) rfl ?_; rintro _ _ ⟨hs, hF⟩) | (apply aS; first | refine bK rfl ob ?_ | refine bV rfl gb ?_) | (apply dB; (refine dE (id := 16) [0, 1, 0, 4, 0, 16, 48, 127, 255] [(0, 0), (1, 0), (2, 0), (3, 0), (4, 0), (5, 1), (6, 0), (7, 0)] [8] hs eI (by kernel_rfl) (by kernel_rfl) (by kernel_rfl) (by kernel_rfl) (by kernel_rfl) ?_)) | (refine dA (fun W hs => ?_)) | (apply fS; case' hos => (simp only [List.map_cons, List.map_nil, List.getElem?_toArray, List.getElem?_cons_succ, List.getElem?_cons_zero]; repeat' (first | exact gZ | apply fQ))))
    obtain ⟨qn, hqn⟩ : ∃ qn : QN, qn = (true, ((a9, n3, n3), t), (z0, []), (z0, [])) := ⟨_, rfl⟩
    have hqnm : iG qn = newN t := by rw [hqn]
    have hqno : okN qn := by rw [hqn]; exact ⟨⟨htl.symm, hto⟩, ⟨rfl, fun x h => by cases h⟩, ⟨rfl, fun x h => by cases h⟩⟩
    have hs := (hs.nilRow 93 2).nilRow 93 2
    have hs := St.packN (q := (true, ((a9, n3, n3), t), (z0, []), (z0, []))) (L := [OwnN qs, _, _, _, _]) (hs.sel [2, 0, 1, 4, 3, 5, 6, 10] (by decide))
    rw [← hqn] at hs
    obtain ⟨q0, hq0⟩ : ∃ q0, qs[k]? = some q0 := ⟨_, List.getElem?_eq_getElem (by omega)⟩
    have hs := St.replN hq0 hs
    have hmp : (qs.set k qn).map rawN = (qs.map rawN).set k (rNew (a9, n3, n3)) := by rw [List.map_set, hqn]
    rw [← hmp] at hs
    have hsn : setN N k (newN t) = N.set k (newN t) := by unfold setN; rw [if_pos (by omega)]
    have hents := uC hc hfz hce1 (by rw [hfk]; exact hpe1)
    rw [hfk] at hents
    refine aY Tryz.func99 rfl (.agg' hs rfl rfl (.tmp rfl (.tmp rfl .nil))) (.inr ⟨rfl, some ⟨b, o, none⟩, n, n, a2', es1.length, es1.length, rfl, by omega, qs.set k qn, es1, rs', ⟨by rw [List.map_set, hqm, hsn, ← hqnm], fun u hu => ?_⟩, ⟨hce1, hents⟩, ⟨by rw [hsn, List.length_set, hl], rfl, hle1⟩, (hs.sel [1, 0, 2, 3] (by decide)).out (List.Sublist.refl _)⟩)
    rcases List.mem_or_eq_of_mem_set hu with e | e
    · exact hqo u e
    · rw [e]; exact hqno
end Go.Eng
end
section
namespace Go.Eng
open Go.Proofs
set_option linter.unusedSimpArgs false
set_option linter.unusedVariables false
theorem szN_of {N : List NM} {t : List Int} (hz : szN N) (ht : t.length ≤ 1000000) : szN (ofL N t) := by
  unfold ofL
  by_cases h : ofC N t = 0
  · rw [if_pos h]
    by_cases h2 : fT N t ≠ 0
    · rw [if_pos h2]; exact hz
    · rw [if_neg h2]
      intro x hx
      obtain ⟨i, hi⟩ := List.mem_iff_getElem?.1 hx
      rw [gM (fB N)] at hi
      by_cases e : i = eY N
      · rw [if_pos e] at hi; cases hi; exact ⟨ht, by show 0 ≤ 1000000; omega, by show 0 ≤ 1000000; omega⟩
      · rw [if_neg e] at hi; exact hz x (List.mem_of_getElem? hi)
  · rw [if_neg h]; intro x hx; cases hx
theorem uF {N : List NM} {lo hi : Nat} {id : Int} {a b : NM} (ha : N[hi]? = some a) (hb : N[lo]? = some b) : gT N lo hi id = (N.set hi (a.1, a.2.1, a.2.2.1, wiS a.2.2.2 (id, (lo : Int) + 1))).set lo (b.1, b.2.1, wiS b.2.2.1 (id, (hi : Int) + 1), b.2.2.2) := by
  unfold gT
  rw [dF ha, dF hb]
theorem okT_of {id : Int} {k : Nat} (h : okId id) (hk : k ≤ 1000000) : okT (id, (k : Int) + 1) := ⟨h, by show inK .i64 ((k : Int) + 1); unfold inK; simp only [IntKind.min, IntKind.max, IntKind.bits, IntKind.signed]; omega⟩
theorem wiS_ok {l : List ST} {s : ST} (h : ∀ x ∈ l, okT x) (hs : okT s) : ∀ x ∈ wiS l s, okT x := fun x hx => by
  rcases wiS_mem.1 hx with e | e
  · rw [e]; exact hs
  · exact h x e.1
attribute [local irreducible] Hold J JL JD JX JXat OpR OpG Ret RetV Is Blk Row
set_option maxRecDepth 100000
set_option maxHeartbeats 2000000
end Go.Eng
end
section
namespace Go.Eng
open Go.Proofs
set_option linter.unusedSimpArgs false
set_option linter.unusedVariables false
def goE (N : List NM) (E : List Ent) (n id : Int) (plus : Bool) : Int := if eG N E then goC N n id plus else 220
theorem iS {qs : List QN} {k : Nat} {q : QN} (h : ∀ u ∈ qs, okN u) (hq : okN q) : ∀ u ∈ qs.set k q, okN u := fun u hu => by
  rcases List.mem_or_eq_of_mem_set hu with e | e
  · exact h u e
  · rw [e]; exact hq
theorem rS {qs : List QN} {N : List NM} (h : qs.map iG = N) {k : Nat} {x : NM} (hx : N[k]? = some x) : ∃ q, qs[k]? = some q ∧ iG q = x := by
  rw [← h, List.getElem?_map] at hx
  cases hq : qs[k]? with
  | none => rw [hq] at hx; cases hx
  | some q => rw [hq] at hx; exact ⟨q, rfl, Option.some.inj hx⟩
theorem kF {w0 w : World} {F : Nat → Prop} {L A : List HP} {b : Nat} {o : Obj} (hs : St w0 F w (A ++ L)) (hb : Blk b o ∈ L) : ∀ k, (Star A).foot k → k ≠ b := fun k ⟨c, hc, hk⟩ e => by
  subst e
  exact (List.pairwise_append.1 hs.sep).2.2 c hc _ hb k hk rfl
theorem perm5a {α : Type} (a b c d e : α) (L : List α) : (a :: b :: c :: d :: e :: L).Perm (e :: b :: a :: c :: d :: L) := by
  classical
  rw [List.perm_iff_count]; intro x; simp only [List.count_cons]; omega
theorem perm5b {α : Type} (a b c d e : α) (L : List α) : (a :: b :: c :: d :: e :: L).Perm (e :: c :: a :: b :: d :: L) := by
  classical
  rw [List.perm_iff_count]; intro x; simp only [List.count_cons]; omega
theorem perm5c {α : Type} (a b c d e : α) (L : List α) : (a :: b :: c :: d :: e :: L).Perm (c :: b :: d :: e :: a :: L) := by
  classical
  rw [List.perm_iff_count]; intro x; simp only [List.count_cons]; omega
theorem perm5d {α : Type} (a b c d e : α) (L : List α) : (a :: b :: c :: d :: e :: L).Perm (c :: d :: b :: e :: a :: L) := by
  classical
  rw [List.perm_iff_count]; intro x; simp only [List.count_cons]; omega
theorem xJ (N : List NM) (t : List Int) : (ofL N t).length ≤ N.length + 1 := by
  unfold ofL
  by_cases h : ofC N t = 0
  · rw [if_pos h]
    by_cases h2 : fT N t ≠ 0
    · rw [if_pos h2]; omega
    · rw [if_neg h2, qE (fB N)]
      have := fB N
      split <;> omega
  · rw [if_neg h]; simp
theorem gV {w : World} {b : Nat} {o : Obj} (h : (Blk b o).holds w) : w.heap[b]? = some o := h
theorem pY {N : List NM} (g : GR N) {i : Nat} {x : NM} {plus : Bool} {s : ST} (hs : lO N i x plus s) {q : Nat} {y : NM} {id : Int} (hy : N[q]? = some y) (hu : y.1 = true) (ht : y.2.1 = iN plus x.2.1 id) (e : s.1 = id) : s = (id, (q : Int) + 1) := by
  obtain ⟨_, j, y2, e1, e2, e3, e4, _⟩ := hs
  have : j = q := g.uniq j q y2 y e2 hy e3 hu (by rw [e4, ht, e])
  rw [this] at e1
  exact Prod.ext e e1
theorem qJ {q : QN} {x : NM} (h : iG q = x) : q.1 = x.1 ∧ q.2.1.2 = x.2.1 ∧ q.2.2.1.2 = x.2.2.1 ∧ q.2.2.2.2 = x.2.2.2 := by
  subst h; exact ⟨rfl, rfl, rfl, rfl⟩
attribute [local irreducible] Hold J JL JD JX JXat OpR OpG Ret RetV Is Blk Row
set_option maxRecDepth 100000
set_option maxHeartbeats 2000000
theorem tH (w : World) (a a2 a3 : Option Addr) (n c n2 c2 n3 c3 : Nat) (N : List NM) (E : List Ent) (t : List Int) (h : Sl jD All w a n c N) (hE0 : Sl dEnt All w a2 n2 c2 E) (ht : Sl dId All w a3 n3 c3 t) (hn : n ≤ 900000) (hn2 : n2 ≤ 1048576) (hz : szN N) (hc : eG N E = true) (ho : ofC N t ≠ 0) :
    Ret Tryz.prog 99 #[.agg #[.slice a n c, .slice a2 n2 c2], .slice a3 n3 c3] w fun v w' => v = .tuple #[.agg #[.slice none 0 0, .slice none 0 0], .int .i64 0, .int .i64 (ofC N t)] ∧ Ext w w' :=
  (gof_r w a a2 a3 n c n2 c2 n3 c3 N E t h hE0 ht hn hn2 hz hc).mono fun v w' r => by
    rcases r with ⟨_, r⟩ | ⟨e, _⟩
    · exact r
    · exact absurd e ho
theorem xZ (w : World) (a a2 a3 : Option Addr) (n c n2 c2 n3 c3 : Nat) (N : List NM) (E : List Ent) (t : List Int) (h : Sl jD All w a n c N) (hE0 : Sl dEnt All w a2 n2 c2 E) (ht : Sl dId All w a3 n3 c3 t) (hn : n ≤ 900000) (hn2 : n2 ≤ 1048576) (hz : szN N) (hc : eG N E = true) (ho : ofC N t = 0) :
    Ret Tryz.prog 99 #[.agg #[.slice a n c, .slice a2 n2 c2], .slice a3 n3 c3] w fun v w' => ∃ a' m' c' a2' m2 c2', v = .tuple #[.agg #[.slice a' m' c', .slice a2' m2 c2'], .int .i64 (ofn N t), .int .i64 0] ∧ m' ≤ n + 1 ∧ GOut w w' (ofL N t) a' m' c' a2' m2 c2' :=
  (gof_r w a a2 a3 n c n2 c2 n3 c3 N E t h hE0 ht hn hn2 hz hc).mono fun v w' r => by
    rcases r with ⟨e, _⟩ | ⟨_, r⟩
    · exact absurd ho e
    · exact r
theorem xU (w0 : World) (F : Nat → Prop) (w : World) (L : List HP) (b o n c k p : Nat) (qs : List QN) (q : QN) (x : NM) (id to : Int) (bid : Nat) (hk : k = p) (hs : St w0 F w (OwnN qs :: TabN (some ⟨b, o, none⟩) n c (qs.map rawN) :: L)) (hbl : Blk bid (.cells #[.int .u64 id] 29 (0, 0)) ∈ L)
    (hq : qs[p]? = some q) (hqm : iG q = x) (hqo : okN q) (hid : okId id) (hto : inK .i64 to) (hrise : jF x.2.2.1) (hsame : ∀ s ∈ x.2.2.1, s.1 = id → s = (id, to)) (hln : x.2.2.1.length ≤ 1000000) :
    Ret Tryz.prog 170 #[.pointer (some ⟨b, o + k * 4 + 2, none⟩), .int .i64 to, ptr bid] w fun _ w' => ∃ qn : QN, (iG qn = (x.1, x.2.1, wiS x.2.2.1 (id, to), x.2.2.2) ∧ okN qn) ∧ St w0 F w' (OwnN (qs.set p qn) :: TabN (some ⟨b, o, none⟩) n c ((qs.set p qn).map rawN) :: L) := by
  subst hk
  obtain ⟨hm1, hm2, hm3, hm4⟩ := qJ hqm
  have hp := (List.getElem?_eq_some_iff.1 hq).1
  have hlt : (encL cNd (qs.map rawN)).length = n * 4 := (hs.row (some ⟨b, o, none⟩) n c).len
  have hll : qs.length = n := by rw [qP, List.length_map] at hlt; omega
  have hb : w.heap[bid]? = some (.cells #[.int .u64 id] 29 (0, 0)) := gV (hs.all _ (List.mem_cons_of_mem _ (List.mem_cons_of_mem _ hbl)))
  have h1 := St.unpackN (St.takeN hq hs)
  have h2 : St w0 F w ([TabN (some ⟨b, o, none⟩) n c (qs.map rawN), row2 q] ++ ([row1 q, row3 q, OwnN (qs.take k ++ qs.drop (k + 1))] ++ L)) := h1.perm (perm5a _ _ _ _ _ _)
  obtain ⟨⟨o1, o2⟩, ⟨o3, o4⟩, ⟨o5, o6⟩⟩ := hqo
  have hraw : (qs.map rawN)[k]? = some (rawN q) := by rw [List.getElem?_map, hq]; rfl
  have hcell : (encL cNd (qs.map rawN))[k * 4 + 2]? = some (.slice q.2.2.1.1.1 q.2.2.1.1.2.1 q.2.2.1.1.2.2) := by
    rw [show (encL cNd (qs.map rawN))[k * 4 + 2]? = (cNd (rawN q))[2]? from eX (d := dRNd) (qs.map rawN) k 2 (rawN q) hraw (by show 2 < 4; omega)]; rfl
  have hc := gput_r w b o n c (k * 4 + 2) (encL cNd (qs.map rawN)) q.2.2.1.1.1 q.2.2.1.1.2.1 q.2.2.1.1.2.2 q.2.2.1.2 id to bid (St.held (A := [_, _]) h2) hcell (by omega) o3.symm o4 hid hto (by rw [hm3]; exact hrise) (by rw [hm3]; exact hsame) (by rw [o3, hm3]; exact hln) hb (kF h2 (List.mem_append_right _ hbl))
  refine (show Ret Tryz.prog 170 #[.pointer (some ⟨b, o + k * 4 + 2, none⟩), .int .i64 to, ptr bid] w _ from hc).mono ?_
  rintro _ w' ⟨ra', rc', ht⟩
  have h3 := St.take (A := [_, _]) (A' := [_, _]) h2 ht
  rw [hm3] at h3
  refine ⟨(q.1, q.2.1, ((ra', (wiS x.2.2.1 (id, to)).length, rc'), wiS x.2.2.1 (id, to)), q.2.2.2), ⟨?_, ?_⟩, ?_⟩
  · exact nm_eq.2 ⟨hm1, hm2, rfl, hm4⟩
  · exact ⟨⟨o1, o2⟩, ⟨rfl, wiS_ok (hm3 ▸ o4) ⟨hid, hto⟩⟩, ⟨o5, o6⟩⟩
  · have h4 : St w0 F w' (row1 q :: RowT ra' (wiS x.2.2.1 (id, to)).length rc' (wiS x.2.2.1 (id, to)) :: row3 q :: OwnN (qs.take k ++ qs.drop (k + 1)) :: Row (some ⟨b, o, none⟩) n c 79 4 (bQ (encL cNd (qs.map rawN)) (k * 4 + 2) [.slice ra' (wiS x.2.2.1 (id, to)).length rc']) :: L) := h3.perm (perm5c _ _ _ _ _ _)
    have h5 := St.putN (qn := (q.1, q.2.1, ((ra', (wiS x.2.2.1 (id, to)).length, rc'), wiS x.2.2.1 (id, to)), q.2.2.2)) hp (St.packN (q := (q.1, q.2.1, ((ra', (wiS x.2.2.1 (id, to)).length, rc'), wiS x.2.2.1 (id, to)), q.2.2.2)) h4)
    rw [oD (qs.map rawN) k (rawN q) ra' _ rc' hraw] at h5
    rw [List.map_set]
    exact h5
theorem xV (w0 : World) (F : Nat → Prop) (w : World) (L : List HP) (b o n c k p : Nat) (qs : List QN) (q : QN) (x : NM) (id to : Int) (bid : Nat) (hk : k = p) (hs : St w0 F w (OwnN qs :: TabN (some ⟨b, o, none⟩) n c (qs.map rawN) :: L)) (hbl : Blk bid (.cells #[.int .u64 id] 29 (0, 0)) ∈ L)
    (hq : qs[p]? = some q) (hqm : iG q = x) (hqo : okN q) (hid : okId id) (hto : inK .i64 to) (hrise : jF x.2.2.2) (hsame : ∀ s ∈ x.2.2.2, s.1 = id → s = (id, to)) (hln : x.2.2.2.length ≤ 1000000) :
    Ret Tryz.prog 170 #[.pointer (some ⟨b, o + k * 4 + 3, none⟩), .int .i64 to, ptr bid] w fun _ w' => ∃ qn : QN, (iG qn = (x.1, x.2.1, x.2.2.1, wiS x.2.2.2 (id, to)) ∧ okN qn) ∧ St w0 F w' (OwnN (qs.set p qn) :: TabN (some ⟨b, o, none⟩) n c ((qs.set p qn).map rawN) :: L) := by
  subst hk
  obtain ⟨hm1, hm2, hm3, hm4⟩ := qJ hqm
  have hp := (List.getElem?_eq_some_iff.1 hq).1
  have hlt : (encL cNd (qs.map rawN)).length = n * 4 := (hs.row (some ⟨b, o, none⟩) n c).len
  have hll : qs.length = n := by rw [qP, List.length_map] at hlt; omega
  have hb : w.heap[bid]? = some (.cells #[.int .u64 id] 29 (0, 0)) := gV (hs.all _ (List.mem_cons_of_mem _ (List.mem_cons_of_mem _ hbl)))
  have h1 := St.unpackN (St.takeN hq hs)
  have h2 : St w0 F w ([TabN (some ⟨b, o, none⟩) n c (qs.map rawN), row3 q] ++ ([row1 q, row2 q, OwnN (qs.take k ++ qs.drop (k + 1))] ++ L)) := h1.perm (perm5b _ _ _ _ _ _)
  obtain ⟨⟨o1, o2⟩, ⟨o3, o4⟩, ⟨o5, o6⟩⟩ := hqo
  have hraw : (qs.map rawN)[k]? = some (rawN q) := by rw [List.getElem?_map, hq]; rfl
  have hcell : (encL cNd (qs.map rawN))[k * 4 + 3]? = some (.slice q.2.2.2.1.1 q.2.2.2.1.2.1 q.2.2.2.1.2.2) := by
    rw [show (encL cNd (qs.map rawN))[k * 4 + 3]? = (cNd (rawN q))[3]? from eX (d := dRNd) (qs.map rawN) k 3 (rawN q) hraw (by show 3 < 4; omega)]; rfl
  have hc := gput_r w b o n c (k * 4 + 3) (encL cNd (qs.map rawN)) q.2.2.2.1.1 q.2.2.2.1.2.1 q.2.2.2.1.2.2 q.2.2.2.2 id to bid (St.held (A := [_, _]) h2) hcell (by omega) o5.symm o6 hid hto (by rw [hm4]; exact hrise) (by rw [hm4]; exact hsame) (by rw [o5, hm4]; exact hln) hb (kF h2 (List.mem_append_right _ hbl))
  refine (show Ret Tryz.prog 170 #[.pointer (some ⟨b, o + k * 4 + 3, none⟩), .int .i64 to, ptr bid] w _ from hc).mono ?_
  rintro _ w' ⟨ra', rc', ht⟩
  have h3 := St.take (A := [_, _]) (A' := [_, _]) h2 ht
  rw [hm4] at h3
  refine ⟨(q.1, q.2.1, q.2.2.1, ((ra', (wiS x.2.2.2 (id, to)).length, rc'), wiS x.2.2.2 (id, to))), ⟨?_, ?_⟩, ?_⟩
  · exact nm_eq.2 ⟨hm1, hm2, hm3, rfl⟩
  · exact ⟨⟨o1, o2⟩, ⟨o3, o4⟩, ⟨rfl, wiS_ok (hm4 ▸ o6) ⟨hid, hto⟩⟩⟩
  · have h4 : St w0 F w' (row1 q :: row2 q :: RowT ra' (wiS x.2.2.2 (id, to)).length rc' (wiS x.2.2.2 (id, to)) :: OwnN (qs.take k ++ qs.drop (k + 1)) :: Row (some ⟨b, o, none⟩) n c 79 4 (bQ (encL cNd (qs.map rawN)) (k * 4 + 3) [.slice ra' (wiS x.2.2.2 (id, to)).length rc']) :: L) := h3.perm (perm5d _ _ _ _ _ _)
    have h5 := St.putN (qn := (q.1, q.2.1, q.2.2.1, ((ra', (wiS x.2.2.2 (id, to)).length, rc'), wiS x.2.2.2 (id, to)))) hp (St.packN (q := (q.1, q.2.1, q.2.2.1, ((ra', (wiS x.2.2.2 (id, to)).length, rc'), wiS x.2.2.2 (id, to)))) h4)
    rw [oC (qs.map rawN) k (rawN q) ra' _ rc' hraw] at h5
    rw [List.map_set]
    exact h5
theorem xX (w : World) (a a2 : Option Addr) (n c n2 c2 : Nat) (N : List NM) (E : List Ent) (X0 id : Int) (h : Sl jD All w a n c N) (hE0 : Sl dEnt All w a2 n2 c2 E) (hn : n ≤ 900000) (hn2 : n2 ≤ 1048576) (hz : szN N) (hx0 : inK .i64 X0) (hid : okId id) :
    Ret Tryz.prog 100 #[.agg #[.slice a n c, .slice a2 n2 c2], .int .i64 X0, .int .u64 id, .bool true, .func (.func 45) #[] #[]] w fun v w' =>
      (goE N E X0 id true ≠ 0 ∧ v = .tuple #[.agg #[.slice none 0 0, .slice none 0 0], .int .i64 0, .int .i64 (goE N E X0 id true)] ∧ Ext w w') ∨
      (goE N E X0 id true = 0 ∧ ∃ a' m' c' a2' m2 c2', v = .tuple #[.agg #[.slice a' m' c', .slice a2' m2 c2'], .int .i64 (gon N X0 id true), .int .i64 0] ∧ m' ≤ n + 1 ∧ GOut w w' (goL N X0 id true) a' m' c' a2' m2 c2') := by
  refine cG (l := [_, _, _, _, _]) Tryz.func100 rfl Tryz.ntmps100 (by simp) ?_
  have hs := St.init w
  have hl := h.len
  have hl2 := hE0.len
  obtain ⟨rs, hr, hm⟩ := Sl.raw (D := nN) h
  cases hc : eG N E with
  | false =>
    have he := gO hc
    have eE : goE N E X0 id true = 220 := by unfold goE; rw [hc]; rfl
    rw [eE]
    repeat' (first | ((apply aW 46; refine JL_o (by exact aC en46 rfl (dM _ a a2 n c n2 c2 N E (h.st hs) (hE0.st hs) hn2 hz)) rfl rfl ?_; rintro _ _ ⟨rfl, hE⟩; rw [he]; have hs := hs.ext hE; (try simp only [zcc] at hs))) | (apply aR) | ((apply aI); (first | (apply aV; first | exact aU hs rfl rfl aA | exact aJ hs rfl aA) | (apply aQ; exact aH rfl aA) | (apply aF; exact aB rfl aA) | (apply aK; exact aM rfl rfl rfl aA) | (apply cY; exact cL rfl (by (simp only [bld, cQ, bQ, Value.cells, List.take_succ_cons, List.take_zero, List.drop_succ_cons, List.drop_zero, List.cons_append, List.nil_append, List.length_cons, List.length_nil, List.getElem?_cons_zero, List.getElem?_cons_succ, Option.map_some, List.append_nil, Nat.reduceAdd, Nat.reduceMul, Nat.zero_add, Nat.reduceLeDiff, and_self, if_true, List.toList_toArray, Nat.le_refl, Nat.zero_mul, Nat.one_mul]; first | done | rfl)) aA)); first | (exact rfl; exact rfl) | exact rfl) | (apply bB) | (apply aG) | (apply aL (t := 5); refine JL_o (by apply cD; exact bG hs rfl) rfl rfl ?_; rintro _ _ ⟨b5, rfl, hb5, hs, hE⟩) | (apply aL (t := 7); refine JL_o (by apply cD; exact bG hs rfl) rfl rfl ?_; rintro _ _ ⟨b7, rfl, hb7, hs, hE⟩) | (apply aL (t := 10); refine JL_o (by apply bE; exact aX hs) rfl rfl ?_; rintro _ _ ⟨b10, rfl, hb10, hs, hE⟩) | (apply bH; refine JL_u (by apply bA; exact aZ hs rfl rfl rfl) rfl ?_; rintro _ _ ⟨hs, hF⟩) | (apply aS; refine bF rfl ob ?_))
    refine aY Tryz.func100 rfl (.agg' hs rfl rfl (.tmp rfl (.tmp rfl .nil))) (.inl ⟨by decide, rfl, hs.frm.ext⟩)
  | true =>
  have he := jY hc
  obtain ⟨g, hcE, hA⟩ := check_iff.1 hc
  have eE : goE N E X0 id true = goC N X0 id true := by unfold goE; rw [hc]; rfl
  rw [eE]
  cases hi : isM N X0 with
  | false =>
    have e1 : goC N X0 id true = 2 := by unfold goC; rw [hi]; rfl
    rw [e1]
    repeat' (first | ((apply aW 46; refine JL_o (by exact aC en46 rfl (dM _ a a2 n c n2 c2 N E (h.st hs) (hE0.st hs) hn2 hz)) rfl rfl ?_; rintro _ _ ⟨rfl, hE⟩; rw [he]; have hs := hs.ext hE; (try simp only [zcc] at hs))) | ((apply aW 105; refine JL_o (by exact aC eT rfl (is_r _ a a2 n c n2 c2 N X0 (h.st hs) hx0)) rfl rfl ?_; rintro _ _ ⟨rfl, hE⟩; rw [hi]; have hs := hs.ext hE; (try simp only [zcc] at hs))) | (apply aR) | ((apply aI); (first | (apply aV; first | exact aU hs rfl rfl aA | exact aJ hs rfl aA) | (apply aQ; exact aH rfl aA) | (apply aF; exact aB rfl aA) | (apply aK; exact aM rfl rfl rfl aA) | (apply cB; exact cE rfl aA) | (apply cY; exact cL rfl (by (simp only [bld, cQ, bQ, Value.cells, List.take_succ_cons, List.take_zero, List.drop_succ_cons, List.drop_zero, List.cons_append, List.nil_append, List.length_cons, List.length_nil, List.getElem?_cons_zero, List.getElem?_cons_succ, Option.map_some, List.append_nil, Nat.reduceAdd, Nat.reduceMul, Nat.zero_add, Nat.reduceLeDiff, and_self, if_true, List.toList_toArray, Nat.le_refl, Nat.zero_mul, Nat.one_mul]; first | done | rfl)) aA)); first | (exact rfl; exact rfl) | exact rfl) | (apply bB) | (apply aG) | (apply bJ) | (apply aL (t := 5); refine JL_o (by apply cD; exact bG hs rfl) rfl rfl ?_; rintro _ _ ⟨b5, rfl, hb5, hs, hE⟩) | (apply aL (t := 7); refine JL_o (by apply cD; exact bG hs rfl) rfl rfl ?_; rintro _ _ ⟨b7, rfl, hb7, hs, hE⟩) | (apply aL (t := 10); refine JL_o (by apply bE; exact aX hs) rfl rfl ?_; rintro _ _ ⟨b10, rfl, hb10, hs, hE⟩) | (apply bH; refine JL_u (by apply bA; exact aZ hs rfl rfl rfl) rfl ?_; rintro _ _ ⟨hs, hF⟩) | (apply aS; first | refine bK rfl ob ?_ | refine bZ rfl gb ?_))
    refine aY Tryz.func100 rfl (.agg' hs rfl rfl (.tmp rfl (.tmp rfl .nil))) (.inl ⟨by decide, rfl, hs.frm.ext⟩)
  | true =>
  obtain ⟨p, x, rfl, hxp, hxu⟩ := isM_true.1 hi
  have hpl := (List.getElem?_eq_some_iff.1 hxp).1
  have hnd : dS N ((p : Int) + 1) = x := dK hxp
  obtain ⟨r0, hr0, hrel0⟩ := hm.get hxp
  obtain ⟨u1, mT, u3, u4⟩ := wY hrel0
  have mTl := mT.len
  have hTy := g.typ p x hxp hxu
  obtain ⟨hT12, hTr, _⟩ := typeB_iff.1 hTy
  have hr0' : rs[((p : Int) + 1 - 1).toNat]? = some r0 := by rw [show ((p : Int) + 1 - 1).toNat = p by omega]; exact hr0
  have hbx : 0 ≤ (p : Int) + 1 - 1 ∧ (p : Int) + 1 - 1 < n := by omega
  obtain ⟨b0, o0, rfl⟩ := hr.sl.addr (by omega)
  have hgc : goC N ((p : Int) + 1) id true = (if mayM id then (if id ∈ x.2.1 then 0 else if x.2.1.length = 12 then 6 else ofC N (wiT x.2.1 id)) else 2) := by unfold goC; rw [hi, if_pos rfl, hnd]; rfl
  have hst : mW N ((p : Int) + 1) id true = decide (id ∈ x.2.1) := by unfold mW; rw [hnd]; rfl
  cases hmay : mayM id with
  | false =>
    rw [hmay, if_neg (by decide)] at hgc
    have hwC : hM x.2.1 id = 2 := by unfold hM; rw [if_pos hTy, if_neg (by rw [hmay]; decide)]
    have hwL : gG x.2.1 id = [] := by unfold gG; rw [hwC]; rfl
    rw [hgc]
    repeat' (first | ((apply aW 46; refine JL_o (by exact aC en46 rfl (dM _ (some ⟨b0, o0, none⟩) a2 n c n2 c2 N E (h.st hs) (hE0.st hs) hn2 hz)) rfl rfl ?_; rintro _ _ ⟨rfl, hE⟩; rw [he]; have hs := hs.ext hE; (try simp only [zcc] at hs))) | ((apply aW 105; refine JL_o (by exact aC eT rfl (is_r _ (some ⟨b0, o0, none⟩) a2 n c n2 c2 N ((p : Int) + 1) (h.st hs) hx0)) rfl rfl ?_; rintro _ _ ⟨rfl, hE⟩; rw [hi]; have hs := hs.ext hE; (try simp only [zcc] at hs))) | ((apply aL (t := 43); refine JL_o (cH rfl rfl (Ret.value (cap := #[]) en45 (lM _ r0.2.1.1 r0.2.1.2.1 r0.2.1.2.2 x.2.1 id (mT.st hs) hid))) rfl rfl ?_; rintro _ _ ⟨aw, rfl, hf⟩; rw [hwL] at hf; rw [hwC, hwL]; have hs := hs.fresh hf; (try simp only [zcc] at hs))) | (apply aR) | ((apply aI); (first | (apply aV; first | exact aU hs rfl rfl aA | exact aJ hs rfl aA | exact bU (i := ((p : Int) + 1 - 1).toNat) (j := 1) (hr.st hs) hr0' rfl rfl rfl aA) | (apply aQ; exact aH rfl aA) | (apply aF; exact aB rfl aA) | (apply aT; first | exact aP rfl rfl aA | exact bP rfl rfl aA) | (apply dZ; exact dI rfl rfl (by omega) aA) | (apply aK; exact aM rfl rfl rfl aA) | (apply cB; exact cE rfl aA) | (apply bS; exact bM rfl rfl aA) | (apply aO; exact aN rfl rfl (by omega) (by omega) aA) | (apply cY; exact cL rfl (by (simp only [bld, cQ, bQ, Value.cells, List.take_succ_cons, List.take_zero, List.drop_succ_cons, List.drop_zero, List.cons_append, List.nil_append, List.length_cons, List.length_nil, List.getElem?_cons_zero, List.getElem?_cons_succ, Option.map_some, List.append_nil, Nat.reduceAdd, Nat.reduceMul, Nat.zero_add, Nat.reduceLeDiff, and_self, if_true, List.toList_toArray, Nat.le_refl, Nat.zero_mul, Nat.one_mul]; first | done | rfl)) aA)); first | (exact rfl; exact rfl) | exact rfl) | (apply bB) | (apply aG) | (apply bJ) | (apply aL (t := 5); refine JL_o (by apply cD; exact bG hs rfl) rfl rfl ?_; rintro _ _ ⟨b5, rfl, hb5, hs, hE⟩) | (apply aL (t := 7); refine JL_o (by apply cD; exact bG hs rfl) rfl rfl ?_; rintro _ _ ⟨b7, rfl, hb7, hs, hE⟩) | (apply aL (t := 10); refine JL_o (by apply bE; exact aX hs) rfl rfl ?_; rintro _ _ ⟨b10, rfl, hb10, hs, hE⟩) | (apply bH; refine JL_u (by apply bA; exact aZ hs rfl rfl rfl) rfl ?_; rintro _ _ ⟨hs, hF⟩) | (apply aS; first | refine bF rfl ob ?_ | refine bK rfl ob ?_ | refine bV rfl gb ?_))
    refine aY Tryz.func100 rfl (.agg' hs rfl rfl (.tmp rfl (.tmp rfl .nil))) (.inl ⟨by decide, rfl, hs.frm.ext⟩)
  | true =>
  rw [hmay, if_pos rfl] at hgc
  by_cases hin : id ∈ x.2.1
  · rw [if_pos hin] at hgc
    have hins : insT x.2.1 id = x.2.1 := by unfold insT; rw [if_pos hin]
    have hwC : hM x.2.1 id = 0 := by unfold hM; rw [if_pos hTy, if_pos hmay, hins, if_neg (by omega)]
    have hwL : gG x.2.1 id = x.2.1 := by unfold gG; rw [if_pos hwC, hins]
    have e2 : gon N ((p : Int) + 1) id true = (p : Int) + 1 := by unfold gon; rw [if_pos hgc, if_pos (by rw [hst, decide_eq_true hin])]
    have e3 : goL N ((p : Int) + 1) id true = N := by unfold goL; rw [if_pos hgc, if_pos (by rw [hst, decide_eq_true hin])]
    have heq : decide (x.2.1 = x.2.1) = true := decide_eq_true rfl
    rw [hgc, e2, e3]
    repeat' (first | ((apply aW 46; refine JL_o (by exact aC en46 rfl (dM _ (some ⟨b0, o0, none⟩) a2 n c n2 c2 N E (h.st hs) (hE0.st hs) hn2 hz)) rfl rfl ?_; rintro _ _ ⟨rfl, hE⟩; rw [he]; have hs := hs.ext hE; (try simp only [zcc] at hs))) | ((apply aW 105; refine JL_o (by exact aC eT rfl (is_r _ (some ⟨b0, o0, none⟩) a2 n c n2 c2 N ((p : Int) + 1) (h.st hs) hx0)) rfl rfl ?_; rintro _ _ ⟨rfl, hE⟩; rw [hi]; have hs := hs.ext hE; (try simp only [zcc] at hs))) | ((apply aL (t := 43); refine JL_o (cH rfl rfl (Ret.value (cap := #[]) en45 (lM _ r0.2.1.1 r0.2.1.2.1 r0.2.1.2.2 x.2.1 id (mT.st hs) hid))) rfl rfl ?_; rintro _ _ ⟨aw, rfl, hf⟩; rw [hwL] at hf; rw [hwC, hwL]; have hs := hs.fresh hf; (try simp only [zcc] at hs))) | ((apply aW 43; refine JL_o (by exact aC en43 rfl (eJ _ aw r0.2.1.1 x.2.1.length x.2.1.length r0.2.1.2.1 r0.2.1.2.2 x.2.1 x.2.1 (slU hs zmm (mO mT)) (mT.st hs))) rfl rfl ?_; rintro _ _ ⟨rfl, hE⟩; rw [heq]; have hs := hs.ext hE; (try simp only [zcc] at hs))) | ((apply aW 107; refine JL_o (by exact aC yK rfl (rZ _ (some ⟨b0, o0, none⟩) a2 n c n2 c2 N E (h.st hs) (hE0.st hs) (by omega) hn2 hz (jH hcE))) rfl rfl ?_; rintro _ _ ⟨qs, rs', a', a2', ⟨hqm, hqo⟩, rfl, hf⟩; have hs := hs.fresh hf; (try simp only [zcc] at hs))) | (apply aR) | ((apply aI); (first | (apply aV; first | exact aU hs rfl rfl aA | exact aJ hs rfl aA | exact bU (i := ((p : Int) + 1 - 1).toNat) (j := 1) (hr.st hs) hr0' rfl rfl rfl aA) | (apply aQ; exact aH rfl aA) | (apply aF; exact aB rfl aA) | (apply aT; first | exact aP rfl rfl aA | exact bP rfl rfl aA) | (apply dZ; exact dI rfl rfl (by omega) aA) | (apply aK; exact aM rfl rfl rfl aA) | (apply cB; exact cE rfl aA) | (apply bS; exact bM rfl rfl aA) | (apply aO; exact aN rfl rfl (by omega) (by omega) aA)); first | (exact rfl; exact rfl) | exact rfl) | (apply bB) | (apply aG) | (apply bJ) | (apply aL (t := 5); refine JL_o (by apply cD; exact bG hs rfl) rfl rfl ?_; rintro _ _ ⟨b5, rfl, hb5, hs, hE⟩) | (apply aL (t := 7); refine JL_o (by apply cD; exact bG hs rfl) rfl rfl ?_; rintro _ _ ⟨b7, rfl, hb7, hs, hE⟩) | (apply aL (t := 10); refine JL_o (by apply bE; exact aX hs) rfl rfl ?_; rintro _ _ ⟨b10, rfl, hb10, hs, hE⟩) | (apply bH; refine JL_u (by apply bA; exact aZ hs rfl rfl rfl) rfl ?_; rintro _ _ ⟨hs, hF⟩) | (apply aS; first | refine bK rfl ob ?_ | refine bZ rfl gb ?_ | refine bV rfl gb ?_))
    refine aY Tryz.func100 rfl (.agg' hs rfl rfl (.tmp rfl (.tmp rfl .nil))) (.inr ⟨rfl, a', n, n, a2', n2, n2, rfl, by omega, qs, E, rs', ⟨hqm, hqo⟩, ⟨hcE, hA⟩, ⟨hl, hl2, hn2⟩, hs.out (by simp)⟩)
  rw [if_neg hin] at hgc
  by_cases h12 : x.2.1.length = 12
  · rw [if_pos h12] at hgc
    have hwC : hM x.2.1 id = 6 := by unfold hM; rw [if_pos hTy, if_pos hmay, if_pos (by rw [nX hTr, nF hin]; omega)]
    have hwL : gG x.2.1 id = [] := by unfold gG; rw [hwC]; rfl
    rw [hgc]
    repeat' (first | ((apply aW 46; refine JL_o (by exact aC en46 rfl (dM _ (some ⟨b0, o0, none⟩) a2 n c n2 c2 N E (h.st hs) (hE0.st hs) hn2 hz)) rfl rfl ?_; rintro _ _ ⟨rfl, hE⟩; rw [he]; have hs := hs.ext hE; (try simp only [zcc] at hs))) | ((apply aW 105; refine JL_o (by exact aC eT rfl (is_r _ (some ⟨b0, o0, none⟩) a2 n c n2 c2 N ((p : Int) + 1) (h.st hs) hx0)) rfl rfl ?_; rintro _ _ ⟨rfl, hE⟩; rw [hi]; have hs := hs.ext hE; (try simp only [zcc] at hs))) | ((apply aL (t := 43); refine JL_o (cH rfl rfl (Ret.value (cap := #[]) en45 (lM _ r0.2.1.1 r0.2.1.2.1 r0.2.1.2.2 x.2.1 id (mT.st hs) hid))) rfl rfl ?_; rintro _ _ ⟨aw, rfl, hf⟩; rw [hwL] at hf; rw [hwC, hwL]; have hs := hs.fresh hf; (try simp only [zcc] at hs))) | (apply aR) | ((apply aI); (first | (apply aV; first | exact aU hs rfl rfl aA | exact aJ hs rfl aA | exact bU (i := ((p : Int) + 1 - 1).toNat) (j := 1) (hr.st hs) hr0' rfl rfl rfl aA) | (apply aQ; exact aH rfl aA) | (apply aF; exact aB rfl aA) | (apply aT; first | exact aP rfl rfl aA | exact bP rfl rfl aA) | (apply dZ; exact dI rfl rfl (by omega) aA) | (apply aK; exact aM rfl rfl rfl aA) | (apply cB; exact cE rfl aA) | (apply bS; exact bM rfl rfl aA) | (apply aO; exact aN rfl rfl (by omega) (by omega) aA) | (apply cY; exact cL rfl (by (simp only [bld, cQ, bQ, Value.cells, List.take_succ_cons, List.take_zero, List.drop_succ_cons, List.drop_zero, List.cons_append, List.nil_append, List.length_cons, List.length_nil, List.getElem?_cons_zero, List.getElem?_cons_succ, Option.map_some, List.append_nil, Nat.reduceAdd, Nat.reduceMul, Nat.zero_add, Nat.reduceLeDiff, and_self, if_true, List.toList_toArray, Nat.le_refl, Nat.zero_mul, Nat.one_mul]; first | done | rfl)) aA)); first | (exact rfl; exact rfl) | exact rfl) | (apply bB) | (apply aG) | (apply bJ) | (apply aL (t := 5); refine JL_o (by apply cD; exact bG hs rfl) rfl rfl ?_; rintro _ _ ⟨b5, rfl, hb5, hs, hE⟩) | (apply aL (t := 7); refine JL_o (by apply cD; exact bG hs rfl) rfl rfl ?_; rintro _ _ ⟨b7, rfl, hb7, hs, hE⟩) | (apply aL (t := 10); refine JL_o (by apply bE; exact aX hs) rfl rfl ?_; rintro _ _ ⟨b10, rfl, hb10, hs, hE⟩) | (apply bH; refine JL_u (by apply bA; exact aZ hs rfl rfl rfl) rfl ?_; rintro _ _ ⟨hs, hF⟩) | (apply aS; first | refine bF rfl ob ?_ | refine bK rfl ob ?_ | refine bV rfl gb ?_))
    refine aY Tryz.func100 rfl (.agg' hs rfl rfl (.tmp rfl (.tmp rfl .nil))) (.inl ⟨by decide, rfl, hs.frm.ext⟩)
  rw [if_neg h12] at hgc
  obtain ⟨ZL, hZL⟩ : ∃ z, z = wiT x.2.1 id := ⟨_, rfl⟩
  have hwC : hM x.2.1 id = 0 := by unfold hM; rw [if_pos hTy, if_pos hmay, if_neg (by rw [nX hTr, nF hin]; omega)]
  have hwL : gG x.2.1 id = ZL := by unfold gG; rw [if_pos hwC, nX hTr, hZL]
  have hZo : ∀ u ∈ ZL, okId u := by rw [hZL]; exact (fun u hu => (wiT_mem.1 hu).elim (fun e => e ▸ hid) (fun e => mO mT u e))
  have hZl : ZL.length ≤ 1000000 := by rw [hZL, nF hin]; omega
  have hne0 : ZL ≠ x.2.1 := fun e => hin (by rw [← e, hZL]; exact wiT_mem.2 (.inl rfl))
  have hsf : mW N ((p : Int) + 1) id true = false := by rw [hst, decide_eq_false hin]
  rw [← hZL] at hgc
  have hzeq : decide (ZL = x.2.1) = false := decide_eq_false hne0
  obtain ⟨oc, hoc⟩ : ∃ e, ofC N ZL = e := ⟨_, rfl⟩
  by_cases ho0 : oc ≠ 0
  · rw [hgc, hoc]
    repeat' (first | ((apply aW 46; refine JL_o (by exact aC en46 rfl (dM _ (some ⟨b0, o0, none⟩) a2 n c n2 c2 N E (h.st hs) (hE0.st hs) hn2 hz)) rfl rfl ?_; rintro _ _ ⟨rfl, hE⟩; rw [he]; have hs := hs.ext hE; (try simp only [zcc] at hs))) | ((apply aW 105; refine JL_o (by exact aC eT rfl (is_r _ (some ⟨b0, o0, none⟩) a2 n c n2 c2 N ((p : Int) + 1) (h.st hs) hx0)) rfl rfl ?_; rintro _ _ ⟨rfl, hE⟩; rw [hi]; have hs := hs.ext hE; (try simp only [zcc] at hs))) | ((apply aL (t := 43); refine JL_o (cH rfl rfl (Ret.value (cap := #[]) en45 (lM _ r0.2.1.1 r0.2.1.2.1 r0.2.1.2.2 x.2.1 id (mT.st hs) hid))) rfl rfl ?_; rintro _ _ ⟨aw, rfl, hf⟩; rw [hwL] at hf; rw [hwC, hwL]; have hs := hs.fresh hf; (try simp only [zcc] at hs))) | ((apply aW 43; refine JL_o (by exact aC en43 rfl (eJ _ aw r0.2.1.1 ZL.length ZL.length r0.2.1.2.1 r0.2.1.2.2 ZL x.2.1 (slU hs zmm hZo) (mT.st hs))) rfl rfl ?_; rintro _ _ ⟨rfl, hE⟩; rw [hzeq]; have hs := hs.ext hE; (try simp only [zcc] at hs))) | ((apply aW 99; refine JL_o (by exact aC en99 rfl (tH _ (some ⟨b0, o0, none⟩) a2 aw n c n2 c2 ZL.length ZL.length N E ZL (h.st hs) (hE0.st hs) (slU hs zmm hZo) hn hn2 hz hc (by rw [hoc]; exact ho0))) rfl rfl ?_; rintro _ _ ⟨rfl, hE⟩; rw [hoc]; have hs := hs.ext hE; (try simp only [zcc] at hs))) | (apply aR) | ((apply aI); (first | (apply aV; first | exact aU hs rfl rfl aA | exact aJ hs rfl aA | exact bU (i := ((p : Int) + 1 - 1).toNat) (j := 1) (hr.st hs) hr0' rfl rfl rfl aA) | (apply aQ; exact aH rfl aA) | (apply aF; exact aB rfl aA) | (apply aT; first | exact aP rfl rfl aA | exact bP rfl rfl aA) | (apply dZ; exact dI rfl rfl (by omega) aA) | (apply aK; exact aM rfl rfl rfl aA) | (apply cB; exact cE rfl aA) | (apply bS; exact bM rfl rfl aA) | (apply aO; exact aN rfl rfl (by omega) (by omega) aA) | (apply cY; exact cL rfl (by (simp only [bld, cQ, bQ, Value.cells, List.take_succ_cons, List.take_zero, List.drop_succ_cons, List.drop_zero, List.cons_append, List.nil_append, List.length_cons, List.length_nil, List.getElem?_cons_zero, List.getElem?_cons_succ, Option.map_some, List.append_nil, Nat.reduceAdd, Nat.reduceMul, Nat.zero_add, Nat.reduceLeDiff, and_self, if_true, List.toList_toArray, Nat.le_refl, Nat.zero_mul, Nat.one_mul]; first | done | rfl)) aA)); first | (exact rfl; exact rfl) | exact rfl) | (apply bB) | (apply aG) | (apply bJ) | (apply aL (t := 5); refine JL_o (by apply cD; exact bG hs rfl) rfl rfl ?_; rintro _ _ ⟨b5, rfl, hb5, hs, hE⟩) | (apply aL (t := 7); refine JL_o (by apply cD; exact bG hs rfl) rfl rfl ?_; rintro _ _ ⟨b7, rfl, hb7, hs, hE⟩) | (apply aL (t := 10); refine JL_o (by apply bE; exact aX hs) rfl rfl ?_; rintro _ _ ⟨b10, rfl, hb10, hs, hE⟩) | (apply bH; refine JL_u (by apply bA; exact aZ hs rfl rfl rfl) rfl ?_; rintro _ _ ⟨hs, hF⟩) | (apply aS; first | refine bF rfl ob ?_ | refine bK rfl ob ?_ | refine bV rfl gb ?_))
    refine aY Tryz.func100 rfl (.agg' hs rfl rfl (.tmp rfl (.tmp rfl .nil))) (.inl ⟨ho0, rfl, hs.frm.ext⟩)
  have hgz0 : ofC N ZL = 0 := by rw [hoc]; exact Decidable.not_not.1 ho0
  have hgz : goC N ((p : Int) + 1) id true = 0 := by rw [hgc, hgz0]
  obtain ⟨p2, q, x2, y, hg⟩ : ∃ (p2 q : Nat) (x2 y : NM), Gone N ((p : Int) + 1) id true p2 q x2 y := by
    rcases qM g hgz with ⟨h1, _⟩ | ⟨_, h1⟩
    · rw [hsf] at h1; cases h1
    · exact h1
  have hpp : p2 = p := by have := hg.np; omega
  rw [hpp] at hg
  have hxx : x2 = x := by have := hg.hx; rw [hxp] at this; exact (Option.some.inj this).symm
  rw [hxx] at hg
  clear hpp hxx
  obtain ⟨eL, eN⟩ := hg.goL hgz hsf
  obtain ⟨hlh, gL, hentL⟩ := hg.facts g
  have hof : ofL N (iN true x.2.1 id) = ofL N ZL := by rw [hZL]; rfl
  have hofn : ofn N ZL = q + 1 := by rw [← hg.hq, hZL]; rfl
  have hp1 : (ofL N ZL)[p]? = some x := by rw [← hof]; exact hg.hp'
  have hq1 : (ofL N ZL)[q]? = some y := by rw [← hof]; exact hg.hy
  have g1 : GR (ofL N ZL) := by rw [← hof]; exact hg.gr
  rw [hof] at eL hentL
  have hz1 := szN_of (t := ZL) hz hZl
  obtain ⟨_, zx2, zx3⟩ := hz1 x (List.mem_of_getElem? hp1)
  obtain ⟨_, zy2, zy3⟩ := hz1 y (List.mem_of_getElem? hq1)
  have hpl1 := (List.getElem?_eq_some_iff.1 hp1).1
  have hql1 := (List.getElem?_eq_some_iff.1 hq1).1
  have hne : p ≠ q := hlh
  have hlk := uF (N := ofL N ZL) (lo := p) (hi := q) (id := id) (a := y) (b := x) hq1 hp1
  rw [hgz, eN, eL]
  rw [show gT (ofL N ZL) (loP true p q) (hiP true p q) id = gT (ofL N ZL) p q id from rfl] at hentL ⊢
  have ip : ((p : Int) + 1 - 1).toNat = p := by omega
  have iq : ((q : Int) + 1 - 1).toNat = q := by omega
  have htq : inK .i64 ((q : Int) + 1) := (okT_of hid (by have := xJ N ZL; omega)).2
  have htp : inK .i64 ((p : Int) + 1) := hx0
  have rz1 := g1.rise p x hp1
  have rz2 := g1.rise q y hq1
  have sm1 : ∀ s ∈ x.2.2.1, s.1 = id → s = (id, (q : Int) + 1) := fun s hs e => pY g1 (g1.plus p x hp1 s hs) hq1 hg.yu hg.yt e
  have sm2 : ∀ s ∈ y.2.2.2, s.1 = id → s = (id, (p : Int) + 1) := fun s hs e => pY g1 (g1.less q y hq1 s hs) hp1 hg.xu (by rw [hg.yt]; exact (out_wi hTr hin).symm) e
  repeat' (first | ((apply aW 46; refine JL_o (by exact aC en46 rfl (dM _ (some ⟨b0, o0, none⟩) a2 n c n2 c2 N E (h.st hs) (hE0.st hs) hn2 hz)) rfl rfl ?_; rintro _ _ ⟨rfl, hE⟩; rw [he]; have hs := hs.ext hE; (try simp only [zcc] at hs))) | ((apply aW 105; refine JL_o (by exact aC eT rfl (is_r _ (some ⟨b0, o0, none⟩) a2 n c n2 c2 N ((p : Int) + 1) (h.st hs) hx0)) rfl rfl ?_; rintro _ _ ⟨rfl, hE⟩; rw [hi]; have hs := hs.ext hE; (try simp only [zcc] at hs))) | ((apply aL (t := 43); refine JL_o (cH rfl rfl (Ret.value (cap := #[]) en45 (lM _ r0.2.1.1 r0.2.1.2.1 r0.2.1.2.2 x.2.1 id (mT.st hs) hid))) rfl rfl ?_; rintro _ _ ⟨aw, rfl, hf⟩; rw [hwL] at hf; rw [hwC, hwL]; have hs := hs.fresh hf; (try simp only [zcc] at hs))) | ((apply aW 43; refine JL_o (by exact aC en43 rfl (eJ _ aw r0.2.1.1 ZL.length ZL.length r0.2.1.2.1 r0.2.1.2.2 ZL x.2.1 (slU hs zmm hZo) (mT.st hs))) rfl rfl ?_; rintro _ _ ⟨rfl, hE⟩; rw [hzeq]; have hs := hs.ext hE; (try simp only [zcc] at hs))) | ((apply aW 99; refine JL_o (by exact aC en99 rfl (xZ _ (some ⟨b0, o0, none⟩) a2 aw n c n2 c2 ZL.length ZL.length N E ZL (h.st hs) (hE0.st hs) (slU hs zmm hZo) hn hn2 hz hc hgz0)) rfl rfl ?_; rintro _ _ ⟨a', m', c', a2', m2, c2', rfl, hm', qs, es, rs', ⟨hqm, hqo⟩, ⟨hce, hAe⟩, ⟨hNl, hel, hm2⟩, hf⟩; rw [hofn]; rw [show (((q + 1 : Nat)) : Int) = (q : Int) + 1 from rfl]; have hs := hs.fresh hf; simp only [zcc] at hs; obtain ⟨b, o, rfl⟩ := (hs.row a' m' c').some (by omega); obtain ⟨qp, hqp, hqpm⟩ := rS hqm hp1; obtain ⟨qq, hqq, hqqm⟩ := rS hqm hq1; (try simp only [zcc] at hs))) | ((apply aL (t := 84); have hs1 : St w NoF _ (OwnN qs :: TabN (some ⟨b, o, none⟩) m' c' (qs.map rawN) :: [_, _, _, _, _]) := hs.sel [1, 0, 2, 3, 5, 6, 7] (by decide); refine JL_o (cH rfl rfl (Ret.value (cap := #[ptr b7]) en170 (xU w NoF _ _ b o m' c' ((p : Int) + 1 - 1).toNat p qs qp x id ((q : Int) + 1) b7 ip hs1 zmm hqp hqpm (hqo _ (List.mem_of_getElem? hqp)) hid htq rz1.1 sm1 zx2))) rfl rfl ?_; rintro _ _ ⟨qn1, ⟨hn1, ho1⟩, hs⟩; have hqq1 : (qs.set p qn1)[q]? = some qq := (by rw [List.getElem?_set_ne (fun e => hne (by first | exact e | exact e.symm))]; exact hqq))) | ((apply aL (t := 90); refine JL_o (cH rfl rfl (Ret.value (cap := #[ptr b7]) en170 (xV w NoF _ _ b o m' c' ((q : Int) + 1 - 1).toNat q (qs.set p qn1) qq y id ((p : Int) + 1) b7 iq hs zmm hqq1 hqqm (hqo _ (List.mem_of_getElem? hqq)) hid htp rz2.2 sm2 zy3))) rfl rfl ?_; rintro _ _ ⟨qn2, ⟨hn2, ho2⟩, hs⟩)) | (apply aR) | ((first | (apply aI) | (apply JX_f; exact rfl; intro W X hs)); (first | (apply aV; first | exact aU hs rfl rfl aA | exact aJ hs rfl aA | exact bU (i := ((p : Int) + 1 - 1).toNat) (j := 1) (hr.st hs) hr0' rfl rfl rfl aA) | (apply aQ; exact aH rfl aA) | (apply aF; exact aB rfl aA) | (apply aT; first | exact aP rfl rfl aA | exact bP rfl rfl aA) | (apply dZ; exact dI rfl rfl (by omega) aA) | (apply aK; exact aM rfl rfl rfl aA) | (apply cB; exact cE rfl aA) | (apply iJ; exact gW rfl aA) | (apply bS; exact bM rfl rfl aA) | (apply eR; exact gQ rfl aA) | (apply aO; exact aN rfl rfl (by omega) (by omega) aA)); first | (exact rfl; exact rfl) | exact rfl) | (apply bB) | (apply aG) | (apply bJ) | (apply aL (t := 5); refine JL_o (by apply cD; exact bG hs rfl) rfl rfl ?_; rintro _ _ ⟨b5, rfl, hb5, hs, hE⟩) | (apply aL (t := 7); refine JL_o (by apply cD; exact bG hs rfl) rfl rfl ?_; rintro _ _ ⟨b7, rfl, hb7, hs, hE⟩) | (apply aL (t := 10); refine JL_o (by apply bE; exact aX hs) rfl rfl ?_; rintro _ _ ⟨b10, rfl, hb10, hs, hE⟩) | (apply bH; refine JL_u (by apply bA; exact aZ hs rfl rfl rfl) rfl ?_; rintro _ _ ⟨hs, hF⟩) | (apply aS; first | refine bK rfl ob ?_ | refine bZ rfl gb ?_ | refine bV rfl gb ?_) | (apply dB; (refine dE (id := 16) [0, 1, 0, 4, 15, 0, 32, 0, 128, 480, 31, 2047] [(0, 0), (1, 0), (2, 0), (3, 0), (4, 0), (5, 0), (6, 0), (7, 0), (8, 0), (9, 0), (10, 0), (11, 0)] [] hs eI (by kernel_rfl) (by kernel_rfl) (by kernel_rfl) (by kernel_rfl) (by kernel_rfl) ?_)) | (refine dA (fun W hs => ?_)) | (apply dP))
  have hmean : ((qs.set p qn1).set q qn2).map iG = gT (ofL N ZL) p q id := by
    rw [List.map_set, List.map_set, hqm, hn1, hn2, hlk]; exact List.set_comm _ _ (fun e => hne e)
  refine aY Tryz.func100 rfl (.agg' hs rfl rfl (.tmp rfl (.tmp rfl .nil))) (.inr ⟨rfl, some ⟨b, o, none⟩, m', c', a2', m2, c2', rfl, hm', (qs.set p qn1).set q qn2, es, rs', ⟨hmean, iS (iS hqo ho1) ho2⟩, ⟨hce, hAe.trans hentL.symm⟩, ⟨(nT _ _ _ _).trans hNl, hel, hm2⟩, (hs.sel [1, 0, 2, 3] (by decide)).out (List.Sublist.refl _)⟩)
theorem xY (w : World) (a a2 : Option Addr) (n c n2 c2 : Nat) (N : List NM) (E : List Ent) (X0 id : Int) (h : Sl jD All w a n c N) (hE0 : Sl dEnt All w a2 n2 c2 E) (hn : n ≤ 900000) (hn2 : n2 ≤ 1048576) (hz : szN N) (hx0 : inK .i64 X0) (hid : okId id) :
    Ret Tryz.prog 100 #[.agg #[.slice a n c, .slice a2 n2 c2], .int .i64 X0, .int .u64 id, .bool false, .func (.func 101) #[] #[]] w fun v w' =>
      (goE N E X0 id false ≠ 0 ∧ v = .tuple #[.agg #[.slice none 0 0, .slice none 0 0], .int .i64 0, .int .i64 (goE N E X0 id false)] ∧ Ext w w') ∨
      (goE N E X0 id false = 0 ∧ ∃ a' m' c' a2' m2 c2', v = .tuple #[.agg #[.slice a' m' c', .slice a2' m2 c2'], .int .i64 (gon N X0 id false), .int .i64 0] ∧ m' ≤ n + 1 ∧ GOut w w' (goL N X0 id false) a' m' c' a2' m2 c2') := by
  refine cG (l := [_, _, _, _, _]) Tryz.func100 rfl Tryz.ntmps100 (by simp) ?_
  have hs := St.init w
  have hl := h.len
  have hl2 := hE0.len
  obtain ⟨rs, hr, hm⟩ := Sl.raw (D := nN) h
  cases hc : eG N E with
  | false =>
    have he := gO hc
    have eE : goE N E X0 id false = 220 := by unfold goE; rw [hc]; rfl
    rw [eE]
    repeat' (first | ((apply aW 46; refine JL_o (by exact aC en46 rfl (dM _ a a2 n c n2 c2 N E (h.st hs) (hE0.st hs) hn2 hz)) rfl rfl ?_; rintro _ _ ⟨rfl, hE⟩; rw [he]; have hs := hs.ext hE; (try simp only [zcc] at hs))) | (apply aR) | ((apply aI); (first | (apply aV; first | exact aU hs rfl rfl aA | exact aJ hs rfl aA) | (apply aQ; exact aH rfl aA) | (apply aF; exact aB rfl aA) | (apply aK; exact aM rfl rfl rfl aA) | (apply cY; exact cL rfl (by (simp only [bld, cQ, bQ, Value.cells, List.take_succ_cons, List.take_zero, List.drop_succ_cons, List.drop_zero, List.cons_append, List.nil_append, List.length_cons, List.length_nil, List.getElem?_cons_zero, List.getElem?_cons_succ, Option.map_some, List.append_nil, Nat.reduceAdd, Nat.reduceMul, Nat.zero_add, Nat.reduceLeDiff, and_self, if_true, List.toList_toArray, Nat.le_refl, Nat.zero_mul, Nat.one_mul]; first | done | rfl)) aA)); first | (exact rfl; exact rfl) | exact rfl) | (apply bB) | (apply aG) | (apply aL (t := 5); refine JL_o (by apply cD; exact bG hs rfl) rfl rfl ?_; rintro _ _ ⟨b5, rfl, hb5, hs, hE⟩) | (apply aL (t := 7); refine JL_o (by apply cD; exact bG hs rfl) rfl rfl ?_; rintro _ _ ⟨b7, rfl, hb7, hs, hE⟩) | (apply aL (t := 10); refine JL_o (by apply bE; exact aX hs) rfl rfl ?_; rintro _ _ ⟨b10, rfl, hb10, hs, hE⟩) | (apply bH; refine JL_u (by apply bA; exact aZ hs rfl rfl rfl) rfl ?_; rintro _ _ ⟨hs, hF⟩) | (apply aS; refine bF rfl ob ?_))
    refine aY Tryz.func100 rfl (.agg' hs rfl rfl (.tmp rfl (.tmp rfl .nil))) (.inl ⟨by decide, rfl, hs.frm.ext⟩)
  | true =>
  have he := jY hc
  obtain ⟨g, hcE, hA⟩ := check_iff.1 hc
  have eE : goE N E X0 id false = goC N X0 id false := by unfold goE; rw [hc]; rfl
  rw [eE]
  cases hi : isM N X0 with
  | false =>
    have e1 : goC N X0 id false = 2 := by unfold goC; rw [hi]; rfl
    rw [e1]
    repeat' (first | ((apply aW 46; refine JL_o (by exact aC en46 rfl (dM _ a a2 n c n2 c2 N E (h.st hs) (hE0.st hs) hn2 hz)) rfl rfl ?_; rintro _ _ ⟨rfl, hE⟩; rw [he]; have hs := hs.ext hE; (try simp only [zcc] at hs))) | ((apply aW 105; refine JL_o (by exact aC eT rfl (is_r _ a a2 n c n2 c2 N X0 (h.st hs) hx0)) rfl rfl ?_; rintro _ _ ⟨rfl, hE⟩; rw [hi]; have hs := hs.ext hE; (try simp only [zcc] at hs))) | (apply aR) | ((apply aI); (first | (apply aV; first | exact aU hs rfl rfl aA | exact aJ hs rfl aA) | (apply aQ; exact aH rfl aA) | (apply aF; exact aB rfl aA) | (apply aK; exact aM rfl rfl rfl aA) | (apply cB; exact cE rfl aA) | (apply cY; exact cL rfl (by (simp only [bld, cQ, bQ, Value.cells, List.take_succ_cons, List.take_zero, List.drop_succ_cons, List.drop_zero, List.cons_append, List.nil_append, List.length_cons, List.length_nil, List.getElem?_cons_zero, List.getElem?_cons_succ, Option.map_some, List.append_nil, Nat.reduceAdd, Nat.reduceMul, Nat.zero_add, Nat.reduceLeDiff, and_self, if_true, List.toList_toArray, Nat.le_refl, Nat.zero_mul, Nat.one_mul]; first | done | rfl)) aA)); first | (exact rfl; exact rfl) | exact rfl) | (apply bB) | (apply aG) | (apply bJ) | (apply aL (t := 5); refine JL_o (by apply cD; exact bG hs rfl) rfl rfl ?_; rintro _ _ ⟨b5, rfl, hb5, hs, hE⟩) | (apply aL (t := 7); refine JL_o (by apply cD; exact bG hs rfl) rfl rfl ?_; rintro _ _ ⟨b7, rfl, hb7, hs, hE⟩) | (apply aL (t := 10); refine JL_o (by apply bE; exact aX hs) rfl rfl ?_; rintro _ _ ⟨b10, rfl, hb10, hs, hE⟩) | (apply bH; refine JL_u (by apply bA; exact aZ hs rfl rfl rfl) rfl ?_; rintro _ _ ⟨hs, hF⟩) | (apply aS; first | refine bK rfl ob ?_ | refine bZ rfl gb ?_))
    refine aY Tryz.func100 rfl (.agg' hs rfl rfl (.tmp rfl (.tmp rfl .nil))) (.inl ⟨by decide, rfl, hs.frm.ext⟩)
  | true =>
  obtain ⟨p, x, rfl, hxp, hxu⟩ := isM_true.1 hi
  have hpl := (List.getElem?_eq_some_iff.1 hxp).1
  have hnd : dS N ((p : Int) + 1) = x := dK hxp
  obtain ⟨r0, hr0, hrel0⟩ := hm.get hxp
  obtain ⟨u1, mT, u3, u4⟩ := wY hrel0
  have mTl := mT.len
  have hTy := g.typ p x hxp hxu
  obtain ⟨hT12, hTr, _⟩ := typeB_iff.1 hTy
  have hr0' : rs[((p : Int) + 1 - 1).toNat]? = some r0 := by rw [show ((p : Int) + 1 - 1).toNat = p by omega]; exact hr0
  have hbx : 0 ≤ (p : Int) + 1 - 1 ∧ (p : Int) + 1 - 1 < n := by omega
  obtain ⟨b0, o0, rfl⟩ := hr.sl.addr (by omega)
  have hgc : goC N ((p : Int) + 1) id false = (if id ∈ x.2.1 then ofC N (outT x.2.1 id) else 4) := by unfold goC; rw [hi, if_pos rfl, hnd]; rfl
  have hst : mW N ((p : Int) + 1) id false = false := by unfold mW; rw [hnd]; rfl
  by_cases hin : id ∈ x.2.1
  rotate_left
  · rw [if_neg hin] at hgc
    have hwC : outC x.2.1 id = 4 := by unfold outC; rw [if_pos hTy, if_neg hin]
    have hwL : outL x.2.1 id = [] := by unfold outL; rw [hwC]; rfl
    rw [hgc]
    repeat' (first | ((apply aW 46; refine JL_o (by exact aC en46 rfl (dM _ (some ⟨b0, o0, none⟩) a2 n c n2 c2 N E (h.st hs) (hE0.st hs) hn2 hz)) rfl rfl ?_; rintro _ _ ⟨rfl, hE⟩; rw [he]; have hs := hs.ext hE; (try simp only [zcc] at hs))) | ((apply aW 105; refine JL_o (by exact aC eT rfl (is_r _ (some ⟨b0, o0, none⟩) a2 n c n2 c2 N ((p : Int) + 1) (h.st hs) hx0)) rfl rfl ?_; rintro _ _ ⟨rfl, hE⟩; rw [hi]; have hs := hs.ext hE; (try simp only [zcc] at hs))) | ((apply aL (t := 43); refine JL_o (cH rfl rfl (Ret.value (cap := #[]) tQ (iD _ r0.2.1.1 r0.2.1.2.1 r0.2.1.2.2 x.2.1 id (mT.st hs)))) rfl rfl ?_; rintro _ _ ⟨aw, cw, rfl, hf⟩; rw [hwL] at hf; rw [hwC, hwL]; have hs := hs.fresh hf; (try simp only [zcc] at hs))) | (apply aR) | ((apply aI); (first | (apply aV; first | exact aU hs rfl rfl aA | exact aJ hs rfl aA | exact bU (i := ((p : Int) + 1 - 1).toNat) (j := 1) (hr.st hs) hr0' rfl rfl rfl aA) | (apply aQ; exact aH rfl aA) | (apply aF; exact aB rfl aA) | (apply aT; first | exact aP rfl rfl aA | exact bP rfl rfl aA) | (apply dZ; exact dI rfl rfl (by omega) aA) | (apply aK; exact aM rfl rfl rfl aA) | (apply cB; exact cE rfl aA) | (apply bS; exact bM rfl rfl aA) | (apply aO; exact aN rfl rfl (by omega) (by omega) aA) | (apply cY; exact cL rfl (by (simp only [bld, cQ, bQ, Value.cells, List.take_succ_cons, List.take_zero, List.drop_succ_cons, List.drop_zero, List.cons_append, List.nil_append, List.length_cons, List.length_nil, List.getElem?_cons_zero, List.getElem?_cons_succ, Option.map_some, List.append_nil, Nat.reduceAdd, Nat.reduceMul, Nat.zero_add, Nat.reduceLeDiff, and_self, if_true, List.toList_toArray, Nat.le_refl, Nat.zero_mul, Nat.one_mul]; first | done | rfl)) aA)); first | (exact rfl; exact rfl) | exact rfl) | (apply bB) | (apply aG) | (apply bJ) | (apply aL (t := 5); refine JL_o (by apply cD; exact bG hs rfl) rfl rfl ?_; rintro _ _ ⟨b5, rfl, hb5, hs, hE⟩) | (apply aL (t := 7); refine JL_o (by apply cD; exact bG hs rfl) rfl rfl ?_; rintro _ _ ⟨b7, rfl, hb7, hs, hE⟩) | (apply aL (t := 10); refine JL_o (by apply bE; exact aX hs) rfl rfl ?_; rintro _ _ ⟨b10, rfl, hb10, hs, hE⟩) | (apply bH; refine JL_u (by apply bA; exact aZ hs rfl rfl rfl) rfl ?_; rintro _ _ ⟨hs, hF⟩) | (apply aS; first | refine bF rfl ob ?_ | refine bK rfl ob ?_ | refine bV rfl gb ?_))
    refine aY Tryz.func100 rfl (.agg' hs rfl rfl (.tmp rfl (.tmp rfl .nil))) (.inl ⟨by decide, rfl, hs.frm.ext⟩)
  rw [if_pos hin] at hgc
  obtain ⟨ZL, hZL⟩ : ∃ z, z = outT x.2.1 id := ⟨_, rfl⟩
  obtain ⟨hwC, hwL0⟩ := mR hTy hin
  have hwL : outL x.2.1 id = ZL := by rw [hwL0, hZL]
  have hZo : ∀ u ∈ ZL, okId u := by rw [hZL]; exact (fun u hu => mO mT u (outT_mem.1 hu).1)
  have hZl : ZL.length ≤ 1000000 := by rw [hZL]; have := outT_len x.2.1 id; omega
  have hne0 : ZL ≠ x.2.1 := fun e => by rw [← e, hZL, outT_mem] at hin; exact hin.2 rfl
  have hsf : mW N ((p : Int) + 1) id false = false := hst
  rw [← hZL] at hgc
  have hzeq : decide (ZL = x.2.1) = false := decide_eq_false hne0
  obtain ⟨oc, hoc⟩ : ∃ e, ofC N ZL = e := ⟨_, rfl⟩
  by_cases ho0 : oc ≠ 0
  · rw [hgc, hoc]
    repeat' (first | ((apply aW 46; refine JL_o (by exact aC en46 rfl (dM _ (some ⟨b0, o0, none⟩) a2 n c n2 c2 N E (h.st hs) (hE0.st hs) hn2 hz)) rfl rfl ?_; rintro _ _ ⟨rfl, hE⟩; rw [he]; have hs := hs.ext hE; (try simp only [zcc] at hs))) | ((apply aW 105; refine JL_o (by exact aC eT rfl (is_r _ (some ⟨b0, o0, none⟩) a2 n c n2 c2 N ((p : Int) + 1) (h.st hs) hx0)) rfl rfl ?_; rintro _ _ ⟨rfl, hE⟩; rw [hi]; have hs := hs.ext hE; (try simp only [zcc] at hs))) | ((apply aL (t := 43); refine JL_o (cH rfl rfl (Ret.value (cap := #[]) tQ (iD _ r0.2.1.1 r0.2.1.2.1 r0.2.1.2.2 x.2.1 id (mT.st hs)))) rfl rfl ?_; rintro _ _ ⟨aw, cw, rfl, hf⟩; rw [hwL] at hf; rw [hwC, hwL]; have hs := hs.fresh hf; (try simp only [zcc] at hs))) | ((apply aW 43; refine JL_o (by exact aC en43 rfl (eJ _ aw r0.2.1.1 ZL.length cw r0.2.1.2.1 r0.2.1.2.2 ZL x.2.1 (slU hs zmm hZo) (mT.st hs))) rfl rfl ?_; rintro _ _ ⟨rfl, hE⟩; rw [hzeq]; have hs := hs.ext hE; (try simp only [zcc] at hs))) | ((apply aW 99; refine JL_o (by exact aC en99 rfl (tH _ (some ⟨b0, o0, none⟩) a2 aw n c n2 c2 ZL.length cw N E ZL (h.st hs) (hE0.st hs) (slU hs zmm hZo) hn hn2 hz hc (by rw [hoc]; exact ho0))) rfl rfl ?_; rintro _ _ ⟨rfl, hE⟩; rw [hoc]; have hs := hs.ext hE; (try simp only [zcc] at hs))) | (apply aR) | ((apply aI); (first | (apply aV; first | exact aU hs rfl rfl aA | exact aJ hs rfl aA | exact bU (i := ((p : Int) + 1 - 1).toNat) (j := 1) (hr.st hs) hr0' rfl rfl rfl aA) | (apply aQ; exact aH rfl aA) | (apply aF; exact aB rfl aA) | (apply aT; first | exact aP rfl rfl aA | exact bP rfl rfl aA) | (apply dZ; exact dI rfl rfl (by omega) aA) | (apply aK; exact aM rfl rfl rfl aA) | (apply cB; exact cE rfl aA) | (apply bS; exact bM rfl rfl aA) | (apply aO; exact aN rfl rfl (by omega) (by omega) aA) | (apply cY; exact cL rfl (by (simp only [bld, cQ, bQ, Value.cells, List.take_succ_cons, List.take_zero, List.drop_succ_cons, List.drop_zero, List.cons_append, List.nil_append, List.length_cons, List.length_nil, List.getElem?_cons_zero, List.getElem?_cons_succ, Option.map_some, List.append_nil, Nat.reduceAdd, Nat.reduceMul, Nat.zero_add, Nat.reduceLeDiff, and_self, if_true, List.toList_toArray, Nat.le_refl, Nat.zero_mul, Nat.one_mul]; first | done | rfl)) aA)); first | (exact rfl; exact rfl) | exact rfl) | (apply bB) | (apply aG) | (apply bJ) | (apply aL (t := 5); refine JL_o (by apply cD; exact bG hs rfl) rfl rfl ?_; rintro _ _ ⟨b5, rfl, hb5, hs, hE⟩) | (apply aL (t := 7); refine JL_o (by apply cD; exact bG hs rfl) rfl rfl ?_; rintro _ _ ⟨b7, rfl, hb7, hs, hE⟩) | (apply aL (t := 10); refine JL_o (by apply bE; exact aX hs) rfl rfl ?_; rintro _ _ ⟨b10, rfl, hb10, hs, hE⟩) | (apply bH; refine JL_u (by apply bA; exact aZ hs rfl rfl rfl) rfl ?_; rintro _ _ ⟨hs, hF⟩) | (apply aS; first | refine bF rfl ob ?_ | refine bK rfl ob ?_ | refine bV rfl gb ?_))
    refine aY Tryz.func100 rfl (.agg' hs rfl rfl (.tmp rfl (.tmp rfl .nil))) (.inl ⟨ho0, rfl, hs.frm.ext⟩)
  have hgz0 : ofC N ZL = 0 := by rw [hoc]; exact Decidable.not_not.1 ho0
  have hgz : goC N ((p : Int) + 1) id false = 0 := by rw [hgc, hgz0]
  obtain ⟨p2, q, x2, y, hg⟩ : ∃ (p2 q : Nat) (x2 y : NM), Gone N ((p : Int) + 1) id false p2 q x2 y := by
    rcases qM g hgz with ⟨h1, _⟩ | ⟨_, h1⟩
    · rw [hsf] at h1; cases h1
    · exact h1
  have hpp : p2 = p := by have := hg.np; omega
  rw [hpp] at hg
  have hxx : x2 = x := by have := hg.hx; rw [hxp] at this; exact (Option.some.inj this).symm
  rw [hxx] at hg
  clear hpp hxx
  obtain ⟨eL, eN⟩ := hg.goL hgz hsf
  obtain ⟨hlh, gL, hentL⟩ := hg.facts g
  have hof : ofL N (iN false x.2.1 id) = ofL N ZL := by rw [hZL]; rfl
  have hofn : ofn N ZL = q + 1 := by rw [← hg.hq, hZL]; rfl
  have hp1 : (ofL N ZL)[p]? = some x := by rw [← hof]; exact hg.hp'
  have hq1 : (ofL N ZL)[q]? = some y := by rw [← hof]; exact hg.hy
  have g1 : GR (ofL N ZL) := by rw [← hof]; exact hg.gr
  rw [hof] at eL hentL
  have hz1 := szN_of (t := ZL) hz hZl
  obtain ⟨_, zx2, zx3⟩ := hz1 x (List.mem_of_getElem? hp1)
  obtain ⟨_, zy2, zy3⟩ := hz1 y (List.mem_of_getElem? hq1)
  have hpl1 := (List.getElem?_eq_some_iff.1 hp1).1
  have hql1 := (List.getElem?_eq_some_iff.1 hq1).1
  have hne : q ≠ p := hlh
  have hlk := uF (N := ofL N ZL) (lo := q) (hi := p) (id := id) (a := x) (b := y) hp1 hq1
  rw [hgz, eN, eL]
  rw [show gT (ofL N ZL) (loP false p q) (hiP false p q) id = gT (ofL N ZL) q p id from rfl] at hentL ⊢
  have ip : ((p : Int) + 1 - 1).toNat = p := by omega
  have iq : ((q : Int) + 1 - 1).toNat = q := by omega
  have htq : inK .i64 ((q : Int) + 1) := (okT_of hid (by have := xJ N ZL; omega)).2
  have htp : inK .i64 ((p : Int) + 1) := hx0
  have rz1 := g1.rise p x hp1
  have rz2 := g1.rise q y hq1
  have sm1 : ∀ s ∈ x.2.2.2, s.1 = id → s = (id, (q : Int) + 1) := fun s hs e => pY g1 (g1.less p x hp1 s hs) hq1 hg.yu hg.yt e
  have sm2 : ∀ s ∈ y.2.2.1, s.1 = id → s = (id, (p : Int) + 1) := fun s hs e => pY g1 (g1.plus q y hq1 s hs) hp1 hg.xu (by rw [hg.yt]; exact (wi_out hTr hin).symm) e
  repeat' (first | ((apply aW 46; refine JL_o (by exact aC en46 rfl (dM _ (some ⟨b0, o0, none⟩) a2 n c n2 c2 N E (h.st hs) (hE0.st hs) hn2 hz)) rfl rfl ?_; rintro _ _ ⟨rfl, hE⟩; rw [he]; have hs := hs.ext hE; (try simp only [zcc] at hs))) | ((apply aW 105; refine JL_o (by exact aC eT rfl (is_r _ (some ⟨b0, o0, none⟩) a2 n c n2 c2 N ((p : Int) + 1) (h.st hs) hx0)) rfl rfl ?_; rintro _ _ ⟨rfl, hE⟩; rw [hi]; have hs := hs.ext hE; (try simp only [zcc] at hs))) | ((apply aL (t := 43); refine JL_o (cH rfl rfl (Ret.value (cap := #[]) tQ (iD _ r0.2.1.1 r0.2.1.2.1 r0.2.1.2.2 x.2.1 id (mT.st hs)))) rfl rfl ?_; rintro _ _ ⟨aw, cw, rfl, hf⟩; rw [hwL] at hf; rw [hwC, hwL]; have hs := hs.fresh hf; (try simp only [zcc] at hs))) | ((apply aW 43; refine JL_o (by exact aC en43 rfl (eJ _ aw r0.2.1.1 ZL.length cw r0.2.1.2.1 r0.2.1.2.2 ZL x.2.1 (slU hs zmm hZo) (mT.st hs))) rfl rfl ?_; rintro _ _ ⟨rfl, hE⟩; rw [hzeq]; have hs := hs.ext hE; (try simp only [zcc] at hs))) | ((apply aW 99; refine JL_o (by exact aC en99 rfl (xZ _ (some ⟨b0, o0, none⟩) a2 aw n c n2 c2 ZL.length cw N E ZL (h.st hs) (hE0.st hs) (slU hs zmm hZo) hn hn2 hz hc hgz0)) rfl rfl ?_; rintro _ _ ⟨a', m', c', a2', m2, c2', rfl, hm', qs, es, rs', ⟨hqm, hqo⟩, ⟨hce, hAe⟩, ⟨hNl, hel, hm2⟩, hf⟩; rw [hofn]; rw [show (((q + 1 : Nat)) : Int) = (q : Int) + 1 from rfl]; have hs := hs.fresh hf; simp only [zcc] at hs; obtain ⟨b, o, rfl⟩ := (hs.row a' m' c').some (by omega); obtain ⟨qp, hqp, hqpm⟩ := rS hqm hp1; obtain ⟨qq, hqq, hqqm⟩ := rS hqm hq1; (try simp only [zcc] at hs))) | ((apply aL (t := 96); have hs1 : St w NoF _ (OwnN qs :: TabN (some ⟨b, o, none⟩) m' c' (qs.map rawN) :: [_, _, _, _, _]) := hs.sel [1, 0, 2, 3, 5, 6, 7] (by decide); refine JL_o (cH rfl rfl (Ret.value (cap := #[ptr b7]) en170 (xV w NoF _ _ b o m' c' ((p : Int) + 1 - 1).toNat p qs qp x id ((q : Int) + 1) b7 ip hs1 zmm hqp hqpm (hqo _ (List.mem_of_getElem? hqp)) hid htq rz1.2 sm1 zx3))) rfl rfl ?_; rintro _ _ ⟨qn1, ⟨hn1, ho1⟩, hs⟩; have hqq1 : (qs.set p qn1)[q]? = some qq := (by rw [List.getElem?_set_ne (fun e => hne (by first | exact e | exact e.symm))]; exact hqq))) | ((apply aL (t := 102); refine JL_o (cH rfl rfl (Ret.value (cap := #[ptr b7]) en170 (xU w NoF _ _ b o m' c' ((q : Int) + 1 - 1).toNat q (qs.set p qn1) qq y id ((p : Int) + 1) b7 iq hs zmm hqq1 hqqm (hqo _ (List.mem_of_getElem? hqq)) hid htp rz2.1 sm2 zy2))) rfl rfl ?_; rintro _ _ ⟨qn2, ⟨hn2, ho2⟩, hs⟩)) | (apply aR) | ((first | (apply aI) | (apply JX_f; exact rfl; intro W X hs)); (first | (apply aV; first | exact aU hs rfl rfl aA | exact aJ hs rfl aA | exact bU (i := ((p : Int) + 1 - 1).toNat) (j := 1) (hr.st hs) hr0' rfl rfl rfl aA) | (apply aQ; exact aH rfl aA) | (apply aF; exact aB rfl aA) | (apply aT; first | exact aP rfl rfl aA | exact bP rfl rfl aA) | (apply dZ; exact dI rfl rfl (by omega) aA) | (apply aK; exact aM rfl rfl rfl aA) | (apply cB; exact cE rfl aA) | (apply iJ; exact gW rfl aA) | (apply bS; exact bM rfl rfl aA) | (apply eR; exact gQ rfl aA) | (apply aO; exact aN rfl rfl (by omega) (by omega) aA)); first | (exact rfl; exact rfl) | exact rfl) | (apply bB) | (apply aG) | (apply bJ) | (apply aL (t := 5); refine JL_o (by apply cD; exact bG hs rfl) rfl rfl ?_; rintro _ _ ⟨b5, rfl, hb5, hs, hE⟩) | (apply aL (t := 7); refine JL_o (by apply cD; exact bG hs rfl) rfl rfl ?_; rintro _ _ ⟨b7, rfl, hb7, hs, hE⟩) | (apply aL (t := 10); refine JL_o (by apply bE; exact aX hs) rfl rfl ?_; rintro _ _ ⟨b10, rfl, hb10, hs, hE⟩) | (apply bH; refine JL_u (by apply bA; exact aZ hs rfl rfl rfl) rfl ?_; rintro _ _ ⟨hs, hF⟩) | (apply aS; first | refine bK rfl ob ?_ | refine bV rfl gb ?_) | (apply dB; (refine dE (id := 16) [0, 1, 0, 4, 15, 0, 32, 0, 128, 480, 31, 2047] [(0, 0), (1, 0), (2, 0), (3, 0), (4, 0), (5, 0), (6, 0), (7, 0), (8, 0), (9, 0), (10, 0), (11, 0)] [] hs eI (by kernel_rfl) (by kernel_rfl) (by kernel_rfl) (by kernel_rfl) (by kernel_rfl) ?_)) | (refine dA (fun W hs => ?_)) | (apply dP))
  have hmean : ((qs.set p qn1).set q qn2).map iG = gT (ofL N ZL) q p id := by
    rw [List.map_set, List.map_set, hqm, hn1, hn2, hlk]
  refine aY Tryz.func100 rfl (.agg' hs rfl rfl (.tmp rfl (.tmp rfl .nil))) (.inr ⟨rfl, some ⟨b, o, none⟩, m', c', a2', m2, c2', rfl, hm', (qs.set p qn1).set q qn2, es, rs', ⟨hmean, iS (iS hqo ho1) ho2⟩, ⟨hce, hAe.trans hentL.symm⟩, ⟨(nT _ _ _ _).trans hNl, hel, hm2⟩, (hs.sel [1, 0, 2, 3] (by decide)).out (List.Sublist.refl _)⟩)
end Go.Eng
end
section
namespace Go.Eng
open Go.Proofs
set_option linter.unusedSimpArgs false
set_option linter.unusedVariables false
def drC (N : List NM) (n : Int) : Int := if isM N n && !decide (n = 1) then 0 else 2
def drL (N : List NM) (n : Int) : List NM := if drC N n = 0 then jC N (n - 1).toNat else []
def drE (N : List NM) (E : List Ent) (n : Int) : Int := if eG N E then drC N n else 220
def tV (P : Int) (x : NM) : NM := (x.1, x.2.1, eU x.2.2.1 P, eU x.2.2.2 P)
theorem away_map (N : List NM) (p : Nat) : (N.set p n0).map (tV ((p : Int) + 1)) = N.mapIdx (offN p) := by
  apply List.ext_getElem?
  intro i
  rw [List.getElem?_map, List.getElem?_mapIdx]
  by_cases e : i = p
  · subst e
    by_cases hl : i < N.length
    · rw [List.getElem?_set_self hl, List.getElem?_eq_getElem hl]
      show some (tV _ n0) = some (offN i i _)
      unfold offN
      rw [if_pos rfl]; rfl
    · rw [List.getElem?_eq_none (by rw [List.length_set]; omega), List.getElem?_eq_none (by omega)]; rfl
  · rw [List.getElem?_set_ne (by omega)]
    cases hx : N[i]? with
    | none => rfl
    | some x =>
      show some (tV _ x) = some (offN p i x)
      rw [gC e]; rfl
theorem St.cutN {w0 w : World} {F : Nat → Prop} {L : List HP} {qs : List QN} (m : Nat) (h : St w0 F w (OwnN qs :: L)) : St w0 F w (OwnN (qs.take m) :: L) := by
  have h2 : St w0 F w (qs.map rowN ++ L) := St.unstar h
  refine St.star (A := (qs.take m).map rowN) (h2.sub ?_)
  exact List.Sublist.append_right ((List.take_sublist m qs).map rowN) L
theorem sE {N : List NM} {E : List Ent} (h : eG N E = true) {p : Nat} {a : NM} (ha : N[p]? = some a) (hua : a.1 = true) {i : Nat} {e : Ent} (he : E[i]? = some e) (he1 : e.1 = 1) (het : e.2.1 = a.2.1) : allM (E.set i gone) = fC (jC N p) := by
  obtain ⟨g, hc, hA⟩ := check_iff.1 h
  have hem : e ∈ E.filter dW := List.mem_filter.2 ⟨List.mem_of_getElem? he, decide_eq_true he1⟩
  have hx : ((1, a.2.1, (p : Int) + 1) : Ent) ∈ E.filter dW := (fH E).mem_iff.1 (by rw [hA]; exact ents_mem.2 ⟨p, a, ha, hua, rfl⟩)
  have hee : e = (1, a.2.1, (p : Int) + 1) := mU (eB hc) hem hx het
  have hp := tN he he1
  have hd : dY (e :: (E.set i gone).filter dW) := (hp.pairwise_iff (fun h => Ne.symm h)).1 (eB hc)
  have hne := (List.pairwise_cons.1 (eK hd)).1
  refine yY (mK hc he he1) (oG g.uniq) fun u => ?_
  rw [oH ha hua g.uniq, ← hee, ← hA, (fH E).mem_iff, hp.mem_iff, List.mem_cons]
  constructor
  · intro h; exact ⟨.inr h, fun e => hne u h e.symm⟩
  · rintro ⟨h1 | h1, h2⟩
    · exact absurd h1 h2
    · exact h1
theorem tR {N : List NM} {E : List Ent} (h : eG N E = true) {p : Nat} {a : NM} (ha : N[p]? = some a) (hua : a.1 = true) : sF E a.2.1 = 0 := by
  obtain ⟨g, hc, hA⟩ := check_iff.1 h
  have hx : ((1, a.2.1, (p : Int) + 1) : Ent) ∈ E.filter dW := (fH E).mem_iff.1 (by rw [hA]; exact ents_mem.2 ⟨p, a, ha, hua, rfl⟩)
  exact vV hc hx
theorem gone_len {E : List Ent} (i : Nat) : (E.set i gone).length = E.length := List.length_set
attribute [local irreducible] Hold J JL JD JX JXat JDH OpR OpG Ret RetV Is Blk Row
set_option maxRecDepth 100000
set_option maxHeartbeats 800000
theorem kZ (w : World) (x : ST) (P : Int) (b3 : Nat) (hb3 : w.heap[b3]? = some (.cells #[.int .i64 P] 3 (0, 0))) : Ret Tryz.prog 108 (#[.agg (cT x).toArray] ++ #[ptr b3]) w fun v w' => v = .bool (decide (x.2 = P)) ∧ Ext w w' := by
  refine cG (l := [_, _]) Tryz.func108 rfl Tryz.ntmps108 (by simp) ?_
  have hs := St.init w
  repeat' (first | (apply aR) | ((apply aI); (first | (apply aV; first | exact aU hs rfl rfl aA | exact bT (hs.old_cell (cK (off := 0) hb3 rfl)) rfl aA) | (apply aF; exact aB rfl aA) | (apply aT; exact aP rfl rfl aA) | (apply aK; exact aM rfl rfl rfl aA)); first | (exact rfl; exact rfl) | exact rfl) | (apply bB) | (apply aG) | (apply aL (t := 2); refine JL_o (by apply cD; exact bG hs rfl) rfl rfl ?_; rintro _ _ ⟨b2, rfl, hb2, hs, hE⟩))
  refine aY Tryz.func108 rfl (.tmp rfl .nil) ⟨rfl, hs.frm.ext⟩
-- WSPL 38 6 : [] [0, 1, 2]
theorem gdrop_r (w : World) (a a2 : Option Addr) (n c n2 c2 : Nat) (N : List NM) (E : List Ent) (X0 : Int) (h : Sl jD All w a n c N) (hE0 : Sl dEnt All w a2 n2 c2 E) (hn : n ≤ 900000) (hn2 : n2 ≤ 1048576) (hz : szN N) (hx0 : inK .i64 X0) :
    Ret Tryz.prog 38 #[.agg #[.slice a n c, .slice a2 n2 c2], .int .i64 X0] w fun v w' =>
      (drE N E X0 ≠ 0 ∧ v = .tuple #[.agg #[.slice none 0 0, .slice none 0 0], .int .i64 (drE N E X0)] ∧ Ext w w') ∨
      (drE N E X0 = 0 ∧ ∃ a' m' c' a2' m2 c2', v = .tuple #[.agg #[.slice a' m' c', .slice a2' m2 c2'], .int .i64 0] ∧ m' ≤ n ∧ GOut w w' (drL N X0) a' m' c' a2' m2 c2') := by
  refine cG (l := [_, _]) Tryz.func38 rfl Tryz.ntmps38 (by simp) ?_
  have hs := St.init w
  have hl := h.len
  have hl2 := hE0.len
  obtain ⟨rs, hr, hm⟩ := Sl.raw (D := nN) h
  cases hc : eG N E with
  | false =>
    have he := gO hc
    have eE : drE N E X0 = 220 := by unfold drE; rw [hc]; rfl
    rw [eE]
    repeat' (first | ((apply aW 46; refine JL_o (by exact aC en46 rfl (dM _ a a2 n c n2 c2 N E (h.st hs) (hE0.st hs) hn2 hz)) rfl rfl ?_; rintro _ _ ⟨rfl, hE⟩; rw [he]; have hs := hs.ext hE; (try simp only [zcc] at hs))) | (apply aR) | ((apply aI); (first | (apply aV; first | exact aU hs rfl rfl aA | exact aJ hs rfl aA) | (apply aQ; exact aH rfl aA) | (apply aF; exact aB rfl aA) | (apply aK; exact aM rfl rfl rfl aA) | (apply cY; exact cL rfl (by (simp only [bld, cQ, bQ, Value.cells, List.take_succ_cons, List.take_zero, List.drop_succ_cons, List.drop_zero, List.cons_append, List.nil_append, List.length_cons, List.length_nil, List.getElem?_cons_zero, List.getElem?_cons_succ, Option.map_some, List.append_nil, Nat.reduceAdd, Nat.reduceMul, Nat.zero_add, Nat.reduceLeDiff, and_self, if_true, List.toList_toArray, Nat.le_refl, Nat.zero_mul, Nat.one_mul]; first | done | rfl)) aA)); first | (exact rfl; exact rfl) | exact rfl) | (apply bB) | (apply aG) | (apply aL (t := 2); refine JL_o (by apply cD; exact bG hs rfl) rfl rfl ?_; rintro _ _ ⟨b2, rfl, hb2, hs, hE⟩) | (apply aL (t := 3); refine JL_o (by apply cD; exact bG hs rfl) rfl rfl ?_; rintro _ _ ⟨b3, rfl, hb3, hs, hE⟩) | (apply aL (t := 4); refine JL_o (by apply bE; exact aX hs) rfl rfl ?_; rintro _ _ ⟨b4, rfl, hb4, hs, hE⟩) | (apply bH; refine JL_u (by apply bA; exact aZ hs rfl rfl rfl) rfl ?_; rintro _ _ ⟨hs, hF⟩) | (apply aS; refine bF rfl ob ?_))
    refine aY Tryz.func38 rfl (.agg' hs rfl rfl (.tmp rfl .nil)) (.inl ⟨by decide, rfl, hs.frm.ext⟩)
  | true =>
  have he := jY hc
  obtain ⟨g, hcE, hA⟩ := check_iff.1 hc
  have eE : drE N E X0 = drC N X0 := by unfold drE; rw [hc]; rfl
  rw [eE]
  cases hi : isM N X0 with
  | false =>
    have e1 : drC N X0 = 2 := by unfold drC; rw [hi]; rfl
    rw [e1]
    repeat' (first | ((apply aW 46; refine JL_o (by exact aC en46 rfl (dM _ a a2 n c n2 c2 N E (h.st hs) (hE0.st hs) hn2 hz)) rfl rfl ?_; rintro _ _ ⟨rfl, hE⟩; rw [he]; have hs := hs.ext hE; (try simp only [zcc] at hs))) | ((apply aW 105; refine JL_o (by exact aC eT rfl (is_r _ a a2 n c n2 c2 N X0 (h.st hs) hx0)) rfl rfl ?_; rintro _ _ ⟨rfl, hE⟩; rw [hi]; have hs := hs.ext hE; (try simp only [zcc] at hs))) | (apply aR) | ((apply aI); (first | (apply aV; first | exact aU hs rfl rfl aA | exact aJ hs rfl aA) | (apply aQ; exact aH rfl aA) | (apply aF; exact aB rfl aA) | (apply aK; exact aM rfl rfl rfl aA) | (apply cB; exact cE rfl aA) | (apply cF; exact bW rfl gb rfl aA) | (apply cY; exact cL rfl (by (simp only [bld, cQ, bQ, Value.cells, List.take_succ_cons, List.take_zero, List.drop_succ_cons, List.drop_zero, List.cons_append, List.nil_append, List.length_cons, List.length_nil, List.getElem?_cons_zero, List.getElem?_cons_succ, Option.map_some, List.append_nil, Nat.reduceAdd, Nat.reduceMul, Nat.zero_add, Nat.reduceLeDiff, and_self, if_true, List.toList_toArray, Nat.le_refl, Nat.zero_mul, Nat.one_mul]; first | done | rfl)) aA)); first | (exact rfl; exact rfl) | exact rfl) | (apply bB) | (apply aG) | (apply bJ) | (apply aL (t := 2); refine JL_o (by apply cD; exact bG hs rfl) rfl rfl ?_; rintro _ _ ⟨b2, rfl, hb2, hs, hE⟩) | (apply aL (t := 3); refine JL_o (by apply cD; exact bG hs rfl) rfl rfl ?_; rintro _ _ ⟨b3, rfl, hb3, hs, hE⟩) | (apply aL (t := 4); refine JL_o (by apply bE; exact aX hs) rfl rfl ?_; rintro _ _ ⟨b4, rfl, hb4, hs, hE⟩) | (apply bH; refine JL_u (by apply bA; exact aZ hs rfl rfl rfl) rfl ?_; rintro _ _ ⟨hs, hF⟩) | (apply cW; (refine fM rfl gb rfl ?_)) | (apply aS; first | refine bK rfl ob ?_ | refine bZ rfl gb ?_))
    refine aY Tryz.func38 rfl (.agg' hs rfl rfl (.tmp rfl .nil)) (.inl ⟨by decide, rfl, hs.frm.ext⟩)
  | true =>
  by_cases h1 : X0 = 1
  · have e1 : drC N X0 = 2 := by unfold drC; rw [hi, decide_eq_true h1]; rfl
    rw [e1]
    repeat' (first | ((apply aW 46; refine JL_o (by exact aC en46 rfl (dM _ a a2 n c n2 c2 N E (h.st hs) (hE0.st hs) hn2 hz)) rfl rfl ?_; rintro _ _ ⟨rfl, hE⟩; rw [he]; have hs := hs.ext hE; (try simp only [zcc] at hs))) | ((apply aW 105; refine JL_o (by exact aC eT rfl (is_r _ a a2 n c n2 c2 N X0 (h.st hs) hx0)) rfl rfl ?_; rintro _ _ ⟨rfl, hE⟩; rw [hi]; have hs := hs.ext hE; (try simp only [zcc] at hs))) | (apply aR) | ((first | (apply aI) | (apply bX; exact rfl; exact gb)); (first | (apply aV; first | exact aU hs rfl rfl aA | exact aJ hs rfl aA) | (apply aQ; exact aH rfl aA) | (apply aF; exact aB rfl aA) | (apply aK; exact aM rfl rfl rfl aA) | (apply cB; exact cE rfl aA) | (apply cF; exact bO rfl gb rfl aA) | (apply cY; exact cL rfl (by (simp only [bld, cQ, bQ, Value.cells, List.take_succ_cons, List.take_zero, List.drop_succ_cons, List.drop_zero, List.cons_append, List.nil_append, List.length_cons, List.length_nil, List.getElem?_cons_zero, List.getElem?_cons_succ, Option.map_some, List.append_nil, Nat.reduceAdd, Nat.reduceMul, Nat.zero_add, Nat.reduceLeDiff, and_self, if_true, List.toList_toArray, Nat.le_refl, Nat.zero_mul, Nat.one_mul]; first | done | rfl)) aA)); first | (exact rfl; exact rfl) | exact rfl) | (apply bB) | (apply aG) | (apply bJ) | (apply aL (t := 2); refine JL_o (by apply cD; exact bG hs rfl) rfl rfl ?_; rintro _ _ ⟨b2, rfl, hb2, hs, hE⟩) | (apply aL (t := 3); refine JL_o (by apply cD; exact bG hs rfl) rfl rfl ?_; rintro _ _ ⟨b3, rfl, hb3, hs, hE⟩) | (apply aL (t := 4); refine JL_o (by apply bE; exact aX hs) rfl rfl ?_; rintro _ _ ⟨b4, rfl, hb4, hs, hE⟩) | (apply bH; refine JL_u (by apply bA; exact aZ hs rfl rfl rfl) rfl ?_; rintro _ _ ⟨hs, hF⟩) | (apply aS; first | refine bF rfl ob ?_ | refine bK rfl ob ?_))
    refine aY Tryz.func38 rfl (.agg' hs rfl rfl (.tmp rfl .nil)) (.inl ⟨by decide, rfl, hs.frm.ext⟩)
  have e1 : drC N X0 = 0 := by unfold drC; rw [hi, decide_eq_false h1]; rfl
  obtain ⟨p, x, rfl, hxp, hxu⟩ := isM_true.1 hi
  have e2 : drL N ((p : Int) + 1) = jC N p := by unfold drL; rw [if_pos e1, show ((p : Int) + 1 - 1).toNat = p by omega]
  rw [e1, e2]
  have hpl := (List.getElem?_eq_some_iff.1 hxp).1
  obtain ⟨r0, hr0, hrel0⟩ := hm.get hxp
  obtain ⟨u1, mT, u3, u4⟩ := wY hrel0
  have hr0' : rs[((p : Int) + 1 - 1).toNat]? = some r0 := by rw [show ((p : Int) + 1 - 1).toNat = p by omega]; exact hr0
  have hbx : 0 ≤ (p : Int) + 1 - 1 ∧ (p : Int) + 1 - 1 < n := by omega
  have ip : ((p : Int) + 1 - 1).toNat = p := by omega
  obtain ⟨b0, o0, rfl⟩ := hr.sl.addr (by omega)
  have hdr := tR hc hxp hxu
  repeat' (first | ((apply aW 46; refine JL_o (by exact aC en46 rfl (dM _ (some ⟨b0, o0, none⟩) a2 n c n2 c2 N E (h.st hs) (hE0.st hs) hn2 hz)) rfl rfl ?_; rintro _ _ ⟨rfl, hE⟩; rw [he]; have hs := hs.ext hE; (try simp only [zcc] at hs))) | ((apply aW 105; refine JL_o (by exact aC eT rfl (is_r _ (some ⟨b0, o0, none⟩) a2 n c n2 c2 N ((p : Int) + 1) (h.st hs) hx0)) rfl rfl ?_; rintro _ _ ⟨rfl, hE⟩; rw [hi]; have hs := hs.ext hE; (try simp only [zcc] at hs))) | ((apply ax_c; apply kT 106; exact rfl; (intro W X hN hs; exact aC en106 rfl (drop_ok _ a2 n2 c2 E r0.2.1.1 r0.2.1.2.1 r0.2.1.2.2 x.2.1 (hE0.st hs) hn2 (mT.st hs) hdr)); (rintro _ _ _ _ ⟨i0, e0, rs1, a4, c4, ⟨he0, he01, he0t⟩, rfl, hf⟩; first | exact hE | exact Fresh.ext hf); rintro W X _ _ hN hs ⟨i0, e0, rs1, a4, c4, ⟨he0, he01, he0t⟩, rfl, hf⟩; have hs := hs.fresh hf; (try simp only [zcc] at hs); refine JX.at hs ?_)) | ((apply aW 107; refine JL_o (by exact aC yK rfl (rZ _ (some ⟨b0, o0, none⟩) a4 n c n2 c4 N (E.set i0 gone) (h.st hs) (lD hs zmm zmm) (by omega) hn2 hz (jH (mK hcE he0 he01)))) rfl rfl ?_; rintro _ _ ⟨qs, rs', a', a2', ⟨hqm, hqo⟩, rfl, hf⟩; have hs := hs.fresh hf; simp only [zcc] at hs; obtain ⟨b, o, rfl⟩ := (hs.row a' n n).some (by omega); have hql : qs.length = n := (by have := congrArg List.length hqm; rw [List.length_map] at this; omega); have hset : bQ (encL cNd (qs.map rawN)) (((p : Int) + 1 - 1).toNat * 4) (cNd r00) = encL cNd ((qs.map rawN).set p r00) := (by rw [ip]; exact qO _ p r00 (by rw [List.length_map]; omega)); (try simp only [zcc] at hs))) | ((apply ax_c; apply JX_cu; exact rfl; (intro W X hN hs; exact iM (by apply bA; exact aZ hs rfl rfl rfl) (St.zfoot (A := [_]) (C0 := [_, _, _]) (show St _ _ _ ([_] ++ [_, _, _]) from hs.sel [1, 4, 5, 6] (by decide)) hZZ)); (rintro _ _ _ _ ⟨⟨_, hF⟩, hzz⟩; exact Frm.rlZ hF (fun k hk => hzz k ⟨_, List.mem_singleton_self _, by rw [show k = b7 from hk]; exact gA _ _⟩)); exact rfl; rintro W X _ _ hN hs0 ⟨⟨hs, hF⟩, hzz⟩; refine JX.at hs ?_)) | ((apply bH; refine JL_u (by apply bA; exact dJ (b := b) (o := o) (off := ((p : Int) + 1 - 1).toNat * 4) (n := n) (c := n) (vs := cNd r00) hs rfl rfl rfl rfl (by simp [Value.oneCell']) (by show ((p : Int) + 1 - 1).toNat * 4 + 4 ≤ n * 4; omega)) rfl ?_; rintro _ _ ⟨hs, hF⟩; rw [hset] at hs)) | (apply aR) | ((first | (apply aI) | (apply bX; exact rfl; exact gb) | (apply zM; exact rfl; intro W hs)); (first | (apply aV; first | exact aU hs rfl rfl aA | exact aJ hs rfl aA | exact bU (i := ((p : Int) + 1 - 1).toNat) (j := 1) (hr.st hs) hr0' rfl rfl rfl aA) | (apply aQ; exact aH rfl aA) | (apply aF; exact aB rfl aA) | (apply aT; first | exact aP rfl rfl aA | exact bP rfl rfl aA) | (apply dZ; exact dI rfl rfl (by omega) aA) | (apply aK; exact aM rfl rfl rfl aA) | (apply cB; exact cE rfl aA) | (apply cF; exact bO rfl gb rfl aA) | (apply bL; exact bY rfl aA) | (apply bS; exact bM rfl rfl aA) | (apply eR; exact gQ rfl aA) | (apply aO; exact aN rfl rfl (by omega) (by omega) aA) | (apply cY; exact cL rfl (by (simp only [bld, cQ, bQ, Value.cells, List.take_succ_cons, List.take_zero, List.drop_succ_cons, List.drop_zero, List.cons_append, List.nil_append, List.length_cons, List.length_nil, List.getElem?_cons_zero, List.getElem?_cons_succ, Option.map_some, List.append_nil, Nat.reduceAdd, Nat.reduceMul, Nat.zero_add, Nat.reduceLeDiff, and_self, if_true, List.toList_toArray, Nat.le_refl, Nat.zero_mul, Nat.one_mul]; first | done | rfl)) aA)); first | (exact rfl; exact rfl) | exact rfl) | (apply bB) | (apply aG) | (apply bC) | (apply bJ) | (apply aL (t := 2); refine JL_o (by apply cD; exact bG hs rfl) rfl rfl ?_; rintro _ _ ⟨b2, rfl, hb2, hs, hE⟩) | (apply aL (t := 3); refine JL_o (by apply cD; exact bG hs rfl) rfl rfl ?_; rintro _ _ ⟨b3, rfl, hb3, hs, hE⟩) | (apply aL (t := 4); refine JL_o (by apply bE; exact aX hs) rfl rfl ?_; rintro _ _ ⟨b4, rfl, hb4, hs, hE⟩) | (apply ax_n; refine JX_n (t := 7) rfl (fun W L hs => by apply bE; exact aX hs) rfl ?_) | (apply ax_k; (first | refine JX_k (t := 7) ?_ | refine JX_k2 (t := 7) rfl ?_); intro b7) | (apply bH; refine JL_u (by apply bA; exact aZ hs rfl rfl rfl) rfl ?_; rintro _ _ ⟨hs, hF⟩) | (apply aS; refine bK rfl ob ?_) | (apply dB; (refine zJ (id := 6) [0, 1, 0, 4, 0, 16, 60, 124, 252, 511, 1023, 2047, 2047, 0, 12287, 32767] [(0, 0), (1, 0), (2, 0), (3, 0), (4, 0), (5, 0), (6, 0), (7, 0), (8, 0), (13, 2), (9, 1), (10, 0), (11, 0), (12, 0), (13, 3), (14, 1), (15, 0)] [] [] [_, _, _] (show St _ _ _ [_, _, _] from hs.sel [0, 1, 2] (by decide)) rfl eI (by kernel_rfl) (by kernel_rfl) (by kernel_rfl) (by kernel_rfl) (by kernel_rfl) ?_; intro ZZ hZZ)) | (refine dA (fun W hs => ?_)) | (apply dP))
  have hs := hs.zeroN false
  obtain ⟨q0, hq0⟩ : ∃ q0, qs[p]? = some q0 := ⟨_, List.getElem?_eq_getElem (by omega)⟩
  have hs := St.replN (L := [_, _, _, _, _, _]) hq0 (hs.sel [0, 2, 1, 3, 4, 8, 9, 10] (by decide))
  obtain ⟨qs1, hqs1⟩ : ∃ l, l = qs.set p (false, (z0, []), (z0, []), (z0, [])) := ⟨_, rfl⟩
  have hqm1 : qs1.map iG = N.set p n0 := by rw [hqs1, List.map_set, hqm]
  have hqr1 : qs1.map rawN = (qs.map rawN).set p r00 := by rw [hqs1, List.map_set]
  have hqo1 : ∀ q ∈ qs1, okN q := by rw [hqs1]; exact iS hqo (uE false)
  rw [← hqs1, ← hqr1] at hs
  obtain ⟨N1, hN1⟩ : ∃ l, l = N.set p n0 := ⟨_, rfl⟩
  rw [← hN1] at hqm1
  have hN1l : N1.length = n := by rw [hN1, List.length_set, hl]
  have hz1 : szN N1 := by
    rw [hN1]
    intro u hu
    rcases List.mem_or_eq_of_mem_set hu with e | e
    · exact hz u e
    · rw [e]; exact ⟨by show 0 ≤ 1000000; omega, by show 0 ≤ 1000000; omega, by show 0 ≤ 1000000; omega⟩
  refine dG (α := Nat × List QN) [(2, _), (4, _), (9, _), (57, _)] (fun g => [(58, .int .i64 g.1)]) (fun g w' => St w NoF w' [OwnN g.2, TabN (some ⟨b, o, none⟩) n n (g.2.map rawN), dH a2' n2 n2 rs', Own rs' (E.set i0 gone), Blk b4 (.cells #[.slice none 0 0, .slice none 0 0] 57 (0, 0)), Blk b3 (.cells #[.int .i64 ((p : Int) + 1)] 3 (0, 0)), Blk b2 (.cells #[.slice (some ⟨b, o, none⟩) n n, .slice a2' n2 n2] 57 (0, 0))] ∧ (g.2.map iG = (N1.take g.1).map (tV ((p : Int) + 1)) ++ N1.drop g.1 ∧ ∀ q ∈ g.2, okN q) ∧ g.1 ≤ n) (fun g => n - g.1) (0, qs1) ⟨hs, ⟨hqm1, hqo1⟩, Nat.zero_le _⟩ zss ?_
  rintro ⟨i, qi⟩ w2 ⟨hs1, ⟨hqmi, hqoi⟩, hin⟩ ih
  dsimp only at hs1 hqmi hqoi hin ih ⊢
  have hs : St w NoF w2 [_, _, _, _, _, _, _] := hs1
  by_cases hlt : i < n
  · obtain ⟨y, hy⟩ : ∃ y, N1[i]? = some y := ⟨_, List.getElem?_eq_getElem (by omega)⟩
    obtain ⟨z1, z2, z3⟩ := hz1 y (List.mem_of_getElem? hy)
    have hgi : ((N1.take i).map (tV ((p : Int) + 1)) ++ N1.drop i)[i]? = some y := by
      rw [List.getElem?_append_right (by rw [List.length_map, List.length_take]; omega), List.length_map, List.length_take, List.getElem?_drop, show i + (i - min i N1.length) = i by omega]; exact hy
    obtain ⟨q, hq, hqy⟩ := rS hqmi hgi
    obtain ⟨y1, y2, y3, y4⟩ := qJ hqy
    obtain ⟨⟨o1, o2⟩, ⟨o3, o4⟩, ⟨o5, o6⟩⟩ := hqoi q (List.mem_of_getElem? hq)
    have hql1 := (List.getElem?_eq_some_iff.1 hq).1
    have hraw : (qi.map rawN)[i]? = some (rawN q) := by rw [List.getElem?_map, hq]; rfl
    have hc2 : (encL cNd (qi.map rawN))[i * 4 + 2]? = some (.slice q.2.2.1.1.1 q.2.2.1.1.2.1 q.2.2.1.1.2.2) := by
      rw [show (encL cNd (qi.map rawN))[i * 4 + 2]? = (cNd (rawN q))[2]? from eX (d := dRNd) (qi.map rawN) i 2 (rawN q) hraw (by show 2 < 4; omega)]; rfl
    have hc3 : (encL cNd (qi.map rawN))[i * 4 + 3]? = some (.slice q.2.2.2.1.1 q.2.2.2.1.2.1 q.2.2.2.1.2.2) := by
      rw [show (encL cNd (qi.map rawN))[i * 4 + 3]? = (cNd (rawN q))[3]? from eX (d := dRNd) (qi.map rawN) i 3 (rawN q) hraw (by show 3 < 4; omega)]; rfl
    have hg24 : ((qi.map rawN).set i (q.1, q.2.1.1, (q.2.2.1.1.1, (eU q.2.2.1.2 ((p : Int) + 1)).length, q.2.2.1.1.2.2), q.2.2.2.1))[i]? = some (q.1, q.2.1.1, (q.2.2.1.1.1, (eU q.2.2.1.2 ((p : Int) + 1)).length, q.2.2.1.1.2.2), q.2.2.2.1) := List.getElem?_set_self (by rw [List.length_map]; exact hql1)
    have hset24 : bQ (encL cNd (qi.map rawN)) (i * 4 + 2) [.slice q.2.2.1.1.1 (eU q.2.2.1.2 ((p : Int) + 1)).length q.2.2.1.1.2.2] = encL cNd ((qi.map rawN).set i (q.1, q.2.1.1, (q.2.2.1.1.1, (eU q.2.2.1.2 ((p : Int) + 1)).length, q.2.2.1.1.2.2), q.2.2.2.1)) := oD _ i (rawN q) _ _ _ hraw
    have hset27 : bQ (encL cNd ((qi.map rawN).set i (q.1, q.2.1.1, (q.2.2.1.1.1, (eU q.2.2.1.2 ((p : Int) + 1)).length, q.2.2.1.1.2.2), q.2.2.2.1))) (i * 4 + 3) [.slice q.2.2.2.1.1 (eU q.2.2.2.2 ((p : Int) + 1)).length q.2.2.2.1.2.2] = encL cNd ((qi.map rawN).set i (q.1, q.2.1.1, (q.2.2.1.1.1, (eU q.2.2.1.2 ((p : Int) + 1)).length, q.2.2.1.1.2.2), (q.2.2.2.1.1, (eU q.2.2.2.2 ((p : Int) + 1)).length, q.2.2.2.1.2.2))) := (oC _ i _ _ _ _ hg24).trans (by rw [List.set_set])
    obtain ⟨qn, hqn⟩ : ∃ qn : QN, qn = (q.1, q.2.1, ((q.2.2.1.1.1, (eU q.2.2.1.2 ((p : Int) + 1)).length, q.2.2.1.1.2.2), eU q.2.2.1.2 ((p : Int) + 1)), ((q.2.2.2.1.1, (eU q.2.2.2.2 ((p : Int) + 1)).length, q.2.2.2.1.2.2), eU q.2.2.2.2 ((p : Int) + 1))) := ⟨_, rfl⟩
    have hqno : okN qn := by rw [hqn]; exact ⟨⟨o1, o2⟩, ⟨rfl, fun s hs => o4 s (List.mem_filter.1 hs).1⟩, ⟨rfl, fun s hs => o6 s (List.mem_filter.1 hs).1⟩⟩
    have hqnx : iG qn = tV ((p : Int) + 1) y := by rw [hqn]; exact nm_eq.2 ⟨y1, y2, by show eU q.2.2.1.2 _ = eU y.2.2.1 _; rw [y3], by show eU q.2.2.2.2 _ = eU y.2.2.2 _; rw [y4]⟩
    have hqnr : (qi.set i qn).map rawN = (qi.map rawN).set i (q.1, q.2.1.1, (q.2.2.1.1.1, (eU q.2.2.1.2 ((p : Int) + 1)).length, q.2.2.1.1.2.2), (q.2.2.2.1.1, (eU q.2.2.2.2 ((p : Int) + 1)).length, q.2.2.2.1.2.2)) := by rw [List.map_set, hqn]
    have hqnm : (qi.set i qn).map iG = (N1.take (i + 1)).map (tV ((p : Int) + 1)) ++ N1.drop (i + 1) := by
      rw [List.map_set, hqmi, hqnx, nL _ N1 i _ (by rw [List.length_map, List.length_take]; omega) (by omega), List.take_add_one, hy, List.map_append]; rfl
    have hn2' : q.2.2.1.1.2.1 ≤ 4000000 := by rw [o3, y3]; omega
    have hn3' : q.2.2.2.1.2.1 ≤ 4000000 := by rw [o5, y4]; omega
    repeat' (first | ((apply uP 16; refine hold ?_)) | (apply aR) | ((apply aI); (first | (apply aQ; exact aH rfl aA) | (apply aF; exact aB rfl aA) | (apply aK; exact aM rfl rfl rfl aA)); first | (exact rfl; exact rfl) | exact rfl) | (apply bB) | (apply aG) | (apply bC) | (apply bJ) | (apply aS; refine bF rfl ob ?_))
    refine unhold ?_
    have hs := St.unpackN (St.takeN hq (hs.sel [0, 1, 2, 3, 4, 5, 6] (by decide)))
    have hs : St w NoF _ ([row2 q, row3 q, TabN (some ⟨b, o, none⟩) n n (qi.map rawN)] ++ [row1 q, OwnN (qi.take i ++ qi.drop (i + 1)), dH a2' n2 n2 rs', Own rs' (E.set i0 gone), Blk b4 (.cells #[.slice none 0 0, .slice none 0 0] 57 (0, 0)), Blk b3 (.cells #[.int .i64 ((p : Int) + 1)] 3 (0, 0)), Blk b2 (.cells #[.slice (some ⟨b, o, none⟩) n n, .slice a2' n2 n2] 57 (0, 0))]) := hs.sel [1, 2, 4, 0, 3, 5, 6, 7, 8, 9] (by decide)
    obtain ⟨ZZ, hZZ⟩ : ∃ Z : Nat → Prop, ∀ k, Z k ↔ ((NoF k ∨ w.heap.size ≤ k) ∧ ∀ c ∈ [row1 q, OwnN (qi.take i ++ qi.drop (i + 1)), dH a2' n2 n2 rs', Own rs' (E.set i0 gone), Blk b4 (.cells #[.slice none 0 0, .slice none 0 0] 57 (0, 0)), Blk b3 (.cells #[.int .i64 ((p : Int) + 1)] 3 (0, 0)), Blk b2 (.cells #[.slice (some ⟨b, o, none⟩) n n, .slice a2' n2 n2] 57 (0, 0))], ¬ c.foot k) := ⟨_, fun _ => Iff.rfl⟩
    refine J_draw (id := 16) ZZ [0, 1, 0, 0, 8, 0, 0, 64, 0, 448, 960, 1984, 0, 8128, 0, 16384, 0, 114688, 245760, 507904, 0, 2097088, 4194247, 8388551, 16777159, 33554431, 67108863, 134217727] [(0, false), (1, false), (2, false), (3, false), (4, false), (5, false), (6, false), (7, false), (8, false), (9, false), (10, false), (12, false), (14, false), (15, false), (16, false), (17, false), (18, false), (20, false), (11, false), (13, false), (19, false), (21, false), (22, false), (23, false), (24, false), (25, false), (26, false)] [27] eI (by kernel_rfl) (by kernel_rfl) ?_
    intro _ hE _
    have hs : St w NoF _ ([row2 q, row3 q, TabN (some ⟨b, o, none⟩) n n (qi.map rawN)] ++ [row1 q, OwnN (qi.take i ++ qi.drop (i + 1)), dH a2' n2 n2 rs', Own rs' (E.set i0 gone), Blk b4 (.cells #[.slice none 0 0, .slice none 0 0] 57 (0, 0)), Blk b3 (.cells #[.int .i64 ((p : Int) + 1)] 3 (0, 0)), Blk b2 (.cells #[.slice (some ⟨b, o, none⟩) n n, .slice a2' n2 n2] 57 (0, 0))]) := hs.ext hE
    repeat' (first | (apply mN; exact rfl; (intro W hRl; have hs := St.rlV (A := [_, _, _]) (C0 := [_, _, _, _, _, _, _]) hs hZZ hRl; first | (apply aQ; exact aH rfl aA) | (apply aT; first | exact aP rfl rfl aA | exact bP rfl rfl aA) | (apply aO; exact aN rfl rfl (by omega) (by omega) aA) | (apply aV; exact aU hs rfl rfl aA)); exact rfl))
    refine gY [11, 19] rfl (by kernel_rfl) ⟨?_, ?_, trivial⟩
    · have hsl : St w NoF _ [_, _, _, _, _, _, _, _, _, _] := hs
      refine kU (t := 72) [(13, false), (19, false), (21, false), (22, false), (23, false), (24, false), (25, false), (26, false)] (by kernel_rfl) (by kernel_rfl) (by kernel_rfl) (by kernel_rfl) rfl rfl (by apply aV; exact gD (b := b) (o := o) (off := i * 4 + 2) (n := n) (c := n) hsl rfl hc2 aA) (fun _ _ h9 => by rw [(lG h9).2]; exact Rl.refl _) ?_
      intro _ _ h9
      obtain ⟨rfl, rfl⟩ := lG h9
      clear hsl
      refine gY [13, 19] rfl (by kernel_rfl) ⟨?_, ?_, trivial⟩
      · have hz3 := St.zfoot (A := [_, _, _]) (C0 := [_, _, _, _, _, _, _]) hs hZZ
        have hb3 := gV (hs.all (Blk b3 (.cells #[.int .i64 ((p : Int) + 1)] 3 (0, 0))) (List.mem_append_right _ (.tail _ (.tail _ (.tail _ (.tail _ (.tail _ (.head _))))))))
        have hsc : St w NoF _ ([row2 q] ++ [_, _, _, _, _, _, _, _, _]) := hs
        have hne3 := kF (b := b3) (o := .cells #[.int .i64 ((p : Int) + 1)] 3 (0, 0)) hsc zmm
        refine kU (t := 74) [(19, false), (21, false), (22, false), (23, false), (24, false), (25, false), (26, false)] (by kernel_rfl) (by kernel_rfl) (by kernel_rfl) (by kernel_rfl) rfl rfl (iM (aC vT rfl (mH _ q.2.2.1.1.1 q.2.2.1.1.2.1 q.2.2.1.1.2.2 q.2.2.1.2 (St.held (A := [_]) hsc) o4 hn2' 108 #[ptr b3] vU (fun x => decide (x.2 = (p : Int) + 1)) (fun W hW x hx => kZ W x _ b3 ((hW b3 (Array.getElem?_eq_some_iff.1 hb3).1 (fun hf => hne3 b3 ⟨_, List.mem_singleton_self _, gR hf⟩ rfl)).trans hb3)))) (fun k hk => hz3 k ⟨_, .head _, gR (iQ hk)⟩)) (by rintro _ _ ⟨⟨rfl, ht⟩, hzz⟩; exact Frm.rlZ ht.frm hzz) ?_
        rintro _ _ ⟨⟨rfl, ht⟩, hzz⟩
        have hsd := St.take (A := [_]) (A' := [_]) (L := [_, _, _, _, _, _, _, _, _]) hsc ht
        have hs : St w NoF _ ([_, _, _] ++ [_, _, _, _, _, _, _]) := hsd
        clear hz3 hb3 hne3 hsc hsd ht hzz
        refine gY [19] rfl (by kernel_rfl) ⟨?_, trivial⟩
        have hsl : St w NoF _ [_, _, _, _, _, _, _, _, _, _] := hs
        refine kU (t := 80) [(21, false), (22, false), (23, false), (24, false), (25, false), (26, false)] (by kernel_rfl) (by kernel_rfl) (by kernel_rfl) (by kernel_rfl) rfl rfl (by apply aV; exact gD (b := b) (o := o) (off := i * 4 + 3) (n := n) (c := n) hsl rfl hc3 aA) (fun _ _ h9 => by rw [(lG h9).2]; exact Rl.refl _) ?_
        intro _ _ h9
        obtain ⟨rfl, rfl⟩ := lG h9
        clear hsl
        refine gY [21] rfl (by kernel_rfl) ⟨?_, trivial⟩
        have hz3 := St.zfoot (A := [_, _, _]) (C0 := [_, _, _, _, _, _, _]) hs hZZ
        have hb3 := gV (hs.all (Blk b3 (.cells #[.int .i64 ((p : Int) + 1)] 3 (0, 0))) (List.mem_append_right _ (.tail _ (.tail _ (.tail _ (.tail _ (.tail _ (.head _))))))))
        have hsc : St w NoF _ ([row3 q] ++ [_, _, _, _, _, _, _, _, _]) := (show St w NoF _ [_, _, _, _, _, _, _, _, _, _] from hs).sel [1, 0, 2, 3, 4, 5, 6, 7, 8, 9] (by decide)
        have hne3 := kF (b := b3) (o := .cells #[.int .i64 ((p : Int) + 1)] 3 (0, 0)) hsc zmm
        refine kU (t := 82) [(22, false), (23, false), (24, false), (25, false), (26, false)] (by kernel_rfl) (by kernel_rfl) (by kernel_rfl) (by kernel_rfl) rfl rfl (iM (aC vT rfl (mH _ q.2.2.2.1.1 q.2.2.2.1.2.1 q.2.2.2.1.2.2 q.2.2.2.2 (St.held (A := [_]) hsc) o6 hn3' 108 #[ptr b3] vU (fun x => decide (x.2 = (p : Int) + 1)) (fun W hW x hx => kZ W x _ b3 ((hW b3 (Array.getElem?_eq_some_iff.1 hb3).1 (fun hf => hne3 b3 ⟨_, List.mem_singleton_self _, gR hf⟩ rfl)).trans hb3)))) (fun k hk => hz3 k ⟨_, .tail _ (.head _), gR (iQ hk)⟩)) (by rintro _ _ ⟨⟨rfl, ht⟩, hzz⟩; exact Frm.rlZ ht.frm hzz) ?_
        rintro _ _ ⟨⟨rfl, ht⟩, hzz⟩
        have hsd := St.take (A := [_]) (A' := [_]) (L := [_, _, _, _, _, _, _, _, _]) hsc ht
        have hs : St w NoF _ ([_, _, _] ++ [_, _, _, _, _, _, _]) := (show St w NoF _ [_, _, _, _, _, _, _, _, _, _] from hsd).sel [1, 0, 2, 3, 4, 5, 6, 7, 8, 9] (by decide)
        clear hz3 hb3 hne3 hsc hsd ht hzz
        (apply mN; exact rfl; (intro W hRl; have hs := St.rlV (A := [_, _, _]) (C0 := [_, _, _, _, _, _, _]) hs hZZ hRl; first | (apply aT; first | exact aP rfl rfl aA | exact bP rfl rfl aA) | (apply aO; exact aN rfl rfl (by omega) (by omega) aA)); exact rfl)
        (apply mN; exact rfl; (intro W hRl; have hs := St.rlV (A := [_, _, _]) (C0 := [_, _, _, _, _, _, _]) hs hZZ hRl; first | (apply aT; first | exact aP rfl rfl aA | exact bP rfl rfl aA) | (apply aO; exact aN rfl rfl (by omega) (by omega) aA)); exact rfl)
        refine gY [24] rfl (by kernel_rfl) ⟨?_, trivial⟩
        have hz3 := St.zfoot (A := [_, _, _]) (C0 := [_, _, _, _, _, _, _]) hs hZZ
        have hsl : St w NoF _ [_, _, _, _, _, _, _, _, _, _] := hs
        refine zO [(25, false), (26, false)] (by kernel_rfl) (by kernel_rfl) (by kernel_rfl) (by kernel_rfl) rfl rfl (iM (by apply bA; exact dJ (b := b) (o := o) (off := i * 4 + 2) (n := n) (c := n) (vs := [.slice q.2.2.1.1.1 (eU q.2.2.1.2 ((p : Int) + 1)).length q.2.2.1.1.2.2]) hsl rfl rfl rfl rfl (by simp [Value.oneCell']) (by show i * 4 + 2 + 1 ≤ n * 4; omega)) (fun k hk => hz3 k ⟨_, .tail _ (.tail _ (.head _)), gR hk⟩)) (by rintro _ _ ⟨⟨_, hF⟩, hzz⟩; exact Frm.rlZ hF hzz) ?_
        rintro _ _ ⟨⟨hs, hF⟩, hzz⟩
        rw [hset24] at hs
        have hs : St w NoF _ ([_, _, _] ++ [_, _, _, _, _, _, _]) := hs
        clear hz3 hsl hF hzz
        (apply mN; exact rfl; (intro W hRl; have hs := St.rlV (A := [_, _, _]) (C0 := [_, _, _, _, _, _, _]) hs hZZ hRl; first | (apply aT; first | exact aP rfl rfl aA | exact bP rfl rfl aA) | (apply aO; exact aN rfl rfl (by omega) (by omega) aA)); exact rfl)
        (apply mN; exact rfl; (intro W hRl; have hs := St.rlV (A := [_, _, _]) (C0 := [_, _, _, _, _, _, _]) hs hZZ hRl; first | (apply aT; first | exact aP rfl rfl aA | exact bP rfl rfl aA) | (apply aO; exact aN rfl rfl (by omega) (by omega) aA)); exact rfl)
        (apply fS; case' hos => (simp only [List.map_cons, List.map_nil, List.getElem?_toArray, List.getElem?_cons_succ, List.getElem?_cons_zero]; repeat' (first | exact gZ | apply fQ)))
        apply bH
        have hsl : St w NoF _ [_, _, _, _, _, _, _, _, _, _] := hs
        refine JL_u (by apply bA; exact dJ (b := b) (o := o) (off := i * 4 + 3) (n := n) (c := n) (vs := [.slice q.2.2.2.1.1 (eU q.2.2.2.2 ((p : Int) + 1)).length q.2.2.2.1.2.2]) hsl rfl rfl rfl rfl (by simp [Value.oneCell']) (by show i * 4 + 3 + 1 ≤ n * 4; omega)) rfl ?_
        rintro _ _ ⟨hs, hF⟩
        rw [hset27] at hs
        repeat' (first | (apply aR) | ((apply aI); (first | (apply aQ; exact aH rfl aA) | (apply cJ; exact bR rfl rfl (by omega) (by first | (simp only [Int.reduceAdd]; exact rfl) | exact rfl) aA)); first | (exact rfl; exact rfl) | exact rfl) | (apply aG) | (apply bN))
        have hs := St.packN (q := (q.1, q.2.1, ((q.2.2.1.1.1, (eU q.2.2.1.2 ((p : Int) + 1)).length, q.2.2.1.1.2.2), eU q.2.2.1.2 ((p : Int) + 1)), ((q.2.2.2.1.1, (eU q.2.2.2.2 ((p : Int) + 1)).length, q.2.2.2.1.2.2), eU q.2.2.2.2 ((p : Int) + 1)))) (L := [OwnN (qi.take i ++ qi.drop (i + 1)), _, _, _, _, _, _]) (hs.sel [3, 0, 1, 4, 2, 5, 6, 7, 8, 9] (by decide))
        rw [← hqn] at hs
        have hs := St.putN hql1 hs
        refine ih (i + 1, qi.set i qn) _ _ ⟨by dsimp only; rw [hqnr]; exact hs, ⟨hqnm, iS hqoi hqno⟩, by dsimp only; omega⟩ (by dsimp only; omega) zss
      · have hsl : St w NoF _ [_, _, _, _, _, _, _, _, _, _] := hs
        refine kU (t := 80) [(13, false), (21, false), (22, false), (23, false), (24, false), (25, false), (26, false)] (by kernel_rfl) (by kernel_rfl) (by kernel_rfl) (by kernel_rfl) rfl rfl (by apply aV; exact gD (b := b) (o := o) (off := i * 4 + 3) (n := n) (c := n) hsl rfl hc3 aA) (fun _ _ h9 => by rw [(lG h9).2]; exact Rl.refl _) ?_
        intro _ _ h9
        obtain ⟨rfl, rfl⟩ := lG h9
        clear hsl
        refine gY [13] rfl (by kernel_rfl) ⟨?_, trivial⟩
        have hz3 := St.zfoot (A := [_, _, _]) (C0 := [_, _, _, _, _, _, _]) hs hZZ
        have hb3 := gV (hs.all (Blk b3 (.cells #[.int .i64 ((p : Int) + 1)] 3 (0, 0))) (List.mem_append_right _ (.tail _ (.tail _ (.tail _ (.tail _ (.tail _ (.head _))))))))
        have hsc : St w NoF _ ([row2 q] ++ [_, _, _, _, _, _, _, _, _]) := hs
        have hne3 := kF (b := b3) (o := .cells #[.int .i64 ((p : Int) + 1)] 3 (0, 0)) hsc zmm
        refine kU (t := 74) [(21, false), (22, false), (23, false), (24, false), (25, false), (26, false)] (by kernel_rfl) (by kernel_rfl) (by kernel_rfl) (by kernel_rfl) rfl rfl (iM (aC vT rfl (mH _ q.2.2.1.1.1 q.2.2.1.1.2.1 q.2.2.1.1.2.2 q.2.2.1.2 (St.held (A := [_]) hsc) o4 hn2' 108 #[ptr b3] vU (fun x => decide (x.2 = (p : Int) + 1)) (fun W hW x hx => kZ W x _ b3 ((hW b3 (Array.getElem?_eq_some_iff.1 hb3).1 (fun hf => hne3 b3 ⟨_, List.mem_singleton_self _, gR hf⟩ rfl)).trans hb3)))) (fun k hk => hz3 k ⟨_, .head _, gR (iQ hk)⟩)) (by rintro _ _ ⟨⟨rfl, ht⟩, hzz⟩; exact Frm.rlZ ht.frm hzz) ?_
        rintro _ _ ⟨⟨rfl, ht⟩, hzz⟩
        have hsd := St.take (A := [_]) (A' := [_]) (L := [_, _, _, _, _, _, _, _, _]) hsc ht
        have hs : St w NoF _ ([_, _, _] ++ [_, _, _, _, _, _, _]) := hsd
        clear hz3 hb3 hne3 hsc hsd ht hzz
        refine gY [21] rfl (by kernel_rfl) ⟨?_, trivial⟩
        have hz3 := St.zfoot (A := [_, _, _]) (C0 := [_, _, _, _, _, _, _]) hs hZZ
        have hb3 := gV (hs.all (Blk b3 (.cells #[.int .i64 ((p : Int) + 1)] 3 (0, 0))) (List.mem_append_right _ (.tail _ (.tail _ (.tail _ (.tail _ (.tail _ (.head _))))))))
        have hsc : St w NoF _ ([row3 q] ++ [_, _, _, _, _, _, _, _, _]) := (show St w NoF _ [_, _, _, _, _, _, _, _, _, _] from hs).sel [1, 0, 2, 3, 4, 5, 6, 7, 8, 9] (by decide)
        have hne3 := kF (b := b3) (o := .cells #[.int .i64 ((p : Int) + 1)] 3 (0, 0)) hsc zmm
        refine kU (t := 82) [(22, false), (23, false), (24, false), (25, false), (26, false)] (by kernel_rfl) (by kernel_rfl) (by kernel_rfl) (by kernel_rfl) rfl rfl (iM (aC vT rfl (mH _ q.2.2.2.1.1 q.2.2.2.1.2.1 q.2.2.2.1.2.2 q.2.2.2.2 (St.held (A := [_]) hsc) o6 hn3' 108 #[ptr b3] vU (fun x => decide (x.2 = (p : Int) + 1)) (fun W hW x hx => kZ W x _ b3 ((hW b3 (Array.getElem?_eq_some_iff.1 hb3).1 (fun hf => hne3 b3 ⟨_, List.mem_singleton_self _, gR hf⟩ rfl)).trans hb3)))) (fun k hk => hz3 k ⟨_, .tail _ (.head _), gR (iQ hk)⟩)) (by rintro _ _ ⟨⟨rfl, ht⟩, hzz⟩; exact Frm.rlZ ht.frm hzz) ?_
        rintro _ _ ⟨⟨rfl, ht⟩, hzz⟩
        have hsd := St.take (A := [_]) (A' := [_]) (L := [_, _, _, _, _, _, _, _, _]) hsc ht
        have hs : St w NoF _ ([_, _, _] ++ [_, _, _, _, _, _, _]) := (show St w NoF _ [_, _, _, _, _, _, _, _, _, _] from hsd).sel [1, 0, 2, 3, 4, 5, 6, 7, 8, 9] (by decide)
        clear hz3 hb3 hne3 hsc hsd ht hzz
        (apply mN; exact rfl; (intro W hRl; have hs := St.rlV (A := [_, _, _]) (C0 := [_, _, _, _, _, _, _]) hs hZZ hRl; first | (apply aT; first | exact aP rfl rfl aA | exact bP rfl rfl aA) | (apply aO; exact aN rfl rfl (by omega) (by omega) aA)); exact rfl)
        (apply mN; exact rfl; (intro W hRl; have hs := St.rlV (A := [_, _, _]) (C0 := [_, _, _, _, _, _, _]) hs hZZ hRl; first | (apply aT; first | exact aP rfl rfl aA | exact bP rfl rfl aA) | (apply aO; exact aN rfl rfl (by omega) (by omega) aA)); exact rfl)
        refine gY [24] rfl (by kernel_rfl) ⟨?_, trivial⟩
        have hz3 := St.zfoot (A := [_, _, _]) (C0 := [_, _, _, _, _, _, _]) hs hZZ
        have hsl : St w NoF _ [_, _, _, _, _, _, _, _, _, _] := hs
        refine zO [(25, false), (26, false)] (by kernel_rfl) (by kernel_rfl) (by kernel_rfl) (by kernel_rfl) rfl rfl (iM (by apply bA; exact dJ (b := b) (o := o) (off := i * 4 + 2) (n := n) (c := n) (vs := [.slice q.2.2.1.1.1 (eU q.2.2.1.2 ((p : Int) + 1)).length q.2.2.1.1.2.2]) hsl rfl rfl rfl rfl (by simp [Value.oneCell']) (by show i * 4 + 2 + 1 ≤ n * 4; omega)) (fun k hk => hz3 k ⟨_, .tail _ (.tail _ (.head _)), gR hk⟩)) (by rintro _ _ ⟨⟨_, hF⟩, hzz⟩; exact Frm.rlZ hF hzz) ?_
        rintro _ _ ⟨⟨hs, hF⟩, hzz⟩
        rw [hset24] at hs
        have hs : St w NoF _ ([_, _, _] ++ [_, _, _, _, _, _, _]) := hs
        clear hz3 hsl hF hzz
        (apply mN; exact rfl; (intro W hRl; have hs := St.rlV (A := [_, _, _]) (C0 := [_, _, _, _, _, _, _]) hs hZZ hRl; first | (apply aT; first | exact aP rfl rfl aA | exact bP rfl rfl aA) | (apply aO; exact aN rfl rfl (by omega) (by omega) aA)); exact rfl)
        (apply mN; exact rfl; (intro W hRl; have hs := St.rlV (A := [_, _, _]) (C0 := [_, _, _, _, _, _, _]) hs hZZ hRl; first | (apply aT; first | exact aP rfl rfl aA | exact bP rfl rfl aA) | (apply aO; exact aN rfl rfl (by omega) (by omega) aA)); exact rfl)
        (apply fS; case' hos => (simp only [List.map_cons, List.map_nil, List.getElem?_toArray, List.getElem?_cons_succ, List.getElem?_cons_zero]; repeat' (first | exact gZ | apply fQ)))
        apply bH
        have hsl : St w NoF _ [_, _, _, _, _, _, _, _, _, _] := hs
        refine JL_u (by apply bA; exact dJ (b := b) (o := o) (off := i * 4 + 3) (n := n) (c := n) (vs := [.slice q.2.2.2.1.1 (eU q.2.2.2.2 ((p : Int) + 1)).length q.2.2.2.1.2.2]) hsl rfl rfl rfl rfl (by simp [Value.oneCell']) (by show i * 4 + 3 + 1 ≤ n * 4; omega)) rfl ?_
        rintro _ _ ⟨hs, hF⟩
        rw [hset27] at hs
        repeat' (first | (apply aR) | ((apply aI); (first | (apply aQ; exact aH rfl aA) | (apply cJ; exact bR rfl rfl (by omega) (by first | (simp only [Int.reduceAdd]; exact rfl) | exact rfl) aA)); first | (exact rfl; exact rfl) | exact rfl) | (apply aG) | (apply bN))
        have hs := St.packN (q := (q.1, q.2.1, ((q.2.2.1.1.1, (eU q.2.2.1.2 ((p : Int) + 1)).length, q.2.2.1.1.2.2), eU q.2.2.1.2 ((p : Int) + 1)), ((q.2.2.2.1.1, (eU q.2.2.2.2 ((p : Int) + 1)).length, q.2.2.2.1.2.2), eU q.2.2.2.2 ((p : Int) + 1)))) (L := [OwnN (qi.take i ++ qi.drop (i + 1)), _, _, _, _, _, _]) (hs.sel [3, 0, 1, 4, 2, 5, 6, 7, 8, 9] (by decide))
        rw [← hqn] at hs
        have hs := St.putN hql1 hs
        refine ih (i + 1, qi.set i qn) _ _ ⟨by dsimp only; rw [hqnr]; exact hs, ⟨hqnm, iS hqoi hqno⟩, by dsimp only; omega⟩ (by dsimp only; omega) zss
    · have hsl : St w NoF _ [_, _, _, _, _, _, _, _, _, _] := hs
      refine kU (t := 80) [(11, false), (13, false), (21, false), (22, false), (23, false), (24, false), (25, false), (26, false)] (by kernel_rfl) (by kernel_rfl) (by kernel_rfl) (by kernel_rfl) rfl rfl (by apply aV; exact gD (b := b) (o := o) (off := i * 4 + 3) (n := n) (c := n) hsl rfl hc3 aA) (fun _ _ h9 => by rw [(lG h9).2]; exact Rl.refl _) ?_
      intro _ _ h9
      obtain ⟨rfl, rfl⟩ := lG h9
      clear hsl
      refine gY [11] rfl (by kernel_rfl) ⟨?_, trivial⟩
      have hsl : St w NoF _ [_, _, _, _, _, _, _, _, _, _] := hs
      refine kU (t := 72) [(13, false), (21, false), (22, false), (23, false), (24, false), (25, false), (26, false)] (by kernel_rfl) (by kernel_rfl) (by kernel_rfl) (by kernel_rfl) rfl rfl (by apply aV; exact gD (b := b) (o := o) (off := i * 4 + 2) (n := n) (c := n) hsl rfl hc2 aA) (fun _ _ h9 => by rw [(lG h9).2]; exact Rl.refl _) ?_
      intro _ _ h9
      obtain ⟨rfl, rfl⟩ := lG h9
      clear hsl
      refine gY [13] rfl (by kernel_rfl) ⟨?_, trivial⟩
      have hz3 := St.zfoot (A := [_, _, _]) (C0 := [_, _, _, _, _, _, _]) hs hZZ
      have hb3 := gV (hs.all (Blk b3 (.cells #[.int .i64 ((p : Int) + 1)] 3 (0, 0))) (List.mem_append_right _ (.tail _ (.tail _ (.tail _ (.tail _ (.tail _ (.head _))))))))
      have hsc : St w NoF _ ([row2 q] ++ [_, _, _, _, _, _, _, _, _]) := hs
      have hne3 := kF (b := b3) (o := .cells #[.int .i64 ((p : Int) + 1)] 3 (0, 0)) hsc zmm
      refine kU (t := 74) [(21, false), (22, false), (23, false), (24, false), (25, false), (26, false)] (by kernel_rfl) (by kernel_rfl) (by kernel_rfl) (by kernel_rfl) rfl rfl (iM (aC vT rfl (mH _ q.2.2.1.1.1 q.2.2.1.1.2.1 q.2.2.1.1.2.2 q.2.2.1.2 (St.held (A := [_]) hsc) o4 hn2' 108 #[ptr b3] vU (fun x => decide (x.2 = (p : Int) + 1)) (fun W hW x hx => kZ W x _ b3 ((hW b3 (Array.getElem?_eq_some_iff.1 hb3).1 (fun hf => hne3 b3 ⟨_, List.mem_singleton_self _, gR hf⟩ rfl)).trans hb3)))) (fun k hk => hz3 k ⟨_, .head _, gR (iQ hk)⟩)) (by rintro _ _ ⟨⟨rfl, ht⟩, hzz⟩; exact Frm.rlZ ht.frm hzz) ?_
      rintro _ _ ⟨⟨rfl, ht⟩, hzz⟩
      have hsd := St.take (A := [_]) (A' := [_]) (L := [_, _, _, _, _, _, _, _, _]) hsc ht
      have hs : St w NoF _ ([_, _, _] ++ [_, _, _, _, _, _, _]) := hsd
      clear hz3 hb3 hne3 hsc hsd ht hzz
      refine gY [21] rfl (by kernel_rfl) ⟨?_, trivial⟩
      have hz3 := St.zfoot (A := [_, _, _]) (C0 := [_, _, _, _, _, _, _]) hs hZZ
      have hb3 := gV (hs.all (Blk b3 (.cells #[.int .i64 ((p : Int) + 1)] 3 (0, 0))) (List.mem_append_right _ (.tail _ (.tail _ (.tail _ (.tail _ (.tail _ (.head _))))))))
      have hsc : St w NoF _ ([row3 q] ++ [_, _, _, _, _, _, _, _, _]) := (show St w NoF _ [_, _, _, _, _, _, _, _, _, _] from hs).sel [1, 0, 2, 3, 4, 5, 6, 7, 8, 9] (by decide)
      have hne3 := kF (b := b3) (o := .cells #[.int .i64 ((p : Int) + 1)] 3 (0, 0)) hsc zmm
      refine kU (t := 82) [(22, false), (23, false), (24, false), (25, false), (26, false)] (by kernel_rfl) (by kernel_rfl) (by kernel_rfl) (by kernel_rfl) rfl rfl (iM (aC vT rfl (mH _ q.2.2.2.1.1 q.2.2.2.1.2.1 q.2.2.2.1.2.2 q.2.2.2.2 (St.held (A := [_]) hsc) o6 hn3' 108 #[ptr b3] vU (fun x => decide (x.2 = (p : Int) + 1)) (fun W hW x hx => kZ W x _ b3 ((hW b3 (Array.getElem?_eq_some_iff.1 hb3).1 (fun hf => hne3 b3 ⟨_, List.mem_singleton_self _, gR hf⟩ rfl)).trans hb3)))) (fun k hk => hz3 k ⟨_, .tail _ (.head _), gR (iQ hk)⟩)) (by rintro _ _ ⟨⟨rfl, ht⟩, hzz⟩; exact Frm.rlZ ht.frm hzz) ?_
      rintro _ _ ⟨⟨rfl, ht⟩, hzz⟩
      have hsd := St.take (A := [_]) (A' := [_]) (L := [_, _, _, _, _, _, _, _, _]) hsc ht
      have hs : St w NoF _ ([_, _, _] ++ [_, _, _, _, _, _, _]) := (show St w NoF _ [_, _, _, _, _, _, _, _, _, _] from hsd).sel [1, 0, 2, 3, 4, 5, 6, 7, 8, 9] (by decide)
      clear hz3 hb3 hne3 hsc hsd ht hzz
      (apply mN; exact rfl; (intro W hRl; have hs := St.rlV (A := [_, _, _]) (C0 := [_, _, _, _, _, _, _]) hs hZZ hRl; first | (apply aT; first | exact aP rfl rfl aA | exact bP rfl rfl aA) | (apply aO; exact aN rfl rfl (by omega) (by omega) aA)); exact rfl)
      (apply mN; exact rfl; (intro W hRl; have hs := St.rlV (A := [_, _, _]) (C0 := [_, _, _, _, _, _, _]) hs hZZ hRl; first | (apply aT; first | exact aP rfl rfl aA | exact bP rfl rfl aA) | (apply aO; exact aN rfl rfl (by omega) (by omega) aA)); exact rfl)
      refine gY [24] rfl (by kernel_rfl) ⟨?_, trivial⟩
      have hz3 := St.zfoot (A := [_, _, _]) (C0 := [_, _, _, _, _, _, _]) hs hZZ
      have hsl : St w NoF _ [_, _, _, _, _, _, _, _, _, _] := hs
      refine zO [(25, false), (26, false)] (by kernel_rfl) (by kernel_rfl) (by kernel_rfl) (by kernel_rfl) rfl rfl (iM (by apply bA; exact dJ (b := b) (o := o) (off := i * 4 + 2) (n := n) (c := n) (vs := [.slice q.2.2.1.1.1 (eU q.2.2.1.2 ((p : Int) + 1)).length q.2.2.1.1.2.2]) hsl rfl rfl rfl rfl (by simp [Value.oneCell']) (by show i * 4 + 2 + 1 ≤ n * 4; omega)) (fun k hk => hz3 k ⟨_, .tail _ (.tail _ (.head _)), gR hk⟩)) (by rintro _ _ ⟨⟨_, hF⟩, hzz⟩; exact Frm.rlZ hF hzz) ?_
      rintro _ _ ⟨⟨hs, hF⟩, hzz⟩
      rw [hset24] at hs
      have hs : St w NoF _ ([_, _, _] ++ [_, _, _, _, _, _, _]) := hs
      clear hz3 hsl hF hzz
      (apply mN; exact rfl; (intro W hRl; have hs := St.rlV (A := [_, _, _]) (C0 := [_, _, _, _, _, _, _]) hs hZZ hRl; first | (apply aT; first | exact aP rfl rfl aA | exact bP rfl rfl aA) | (apply aO; exact aN rfl rfl (by omega) (by omega) aA)); exact rfl)
      (apply mN; exact rfl; (intro W hRl; have hs := St.rlV (A := [_, _, _]) (C0 := [_, _, _, _, _, _, _]) hs hZZ hRl; first | (apply aT; first | exact aP rfl rfl aA | exact bP rfl rfl aA) | (apply aO; exact aN rfl rfl (by omega) (by omega) aA)); exact rfl)
      (apply fS; case' hos => (simp only [List.map_cons, List.map_nil, List.getElem?_toArray, List.getElem?_cons_succ, List.getElem?_cons_zero]; repeat' (first | exact gZ | apply fQ)))
      apply bH
      have hsl : St w NoF _ [_, _, _, _, _, _, _, _, _, _] := hs
      refine JL_u (by apply bA; exact dJ (b := b) (o := o) (off := i * 4 + 3) (n := n) (c := n) (vs := [.slice q.2.2.2.1.1 (eU q.2.2.2.2 ((p : Int) + 1)).length q.2.2.2.1.2.2]) hsl rfl rfl rfl rfl (by simp [Value.oneCell']) (by show i * 4 + 3 + 1 ≤ n * 4; omega)) rfl ?_
      rintro _ _ ⟨hs, hF⟩
      rw [hset27] at hs
      repeat' (first | (apply aR) | ((apply aI); (first | (apply aQ; exact aH rfl aA) | (apply cJ; exact bR rfl rfl (by omega) (by first | (simp only [Int.reduceAdd]; exact rfl) | exact rfl) aA)); first | (exact rfl; exact rfl) | exact rfl) | (apply aG) | (apply bN))
      have hs := St.packN (q := (q.1, q.2.1, ((q.2.2.1.1.1, (eU q.2.2.1.2 ((p : Int) + 1)).length, q.2.2.1.1.2.2), eU q.2.2.1.2 ((p : Int) + 1)), ((q.2.2.2.1.1, (eU q.2.2.2.2 ((p : Int) + 1)).length, q.2.2.2.1.2.2), eU q.2.2.2.2 ((p : Int) + 1)))) (L := [OwnN (qi.take i ++ qi.drop (i + 1)), _, _, _, _, _, _]) (hs.sel [3, 0, 1, 4, 2, 5, 6, 7, 8, 9] (by decide))
      rw [← hqn] at hs
      have hs := St.putN hql1 hs
      refine ih (i + 1, qi.set i qn) _ _ ⟨by dsimp only; rw [hqnr]; exact hs, ⟨hqnm, iS hqoi hqno⟩, by dsimp only; omega⟩ (by dsimp only; omega) zss
  · have hin2 : i = n := by omega
    subst hin2
    rw [List.take_of_length_le (by omega), List.drop_of_length_le (by omega), List.append_nil, hN1, away_map] at hqmi
    obtain ⟨ML, hML⟩ : ∃ l, l = N.mapIdx (offN p) := ⟨_, rfl⟩
    rw [← hML] at hqmi
    have hMLl : ML.length = i := by rw [hML, List.length_mapIdx, hl]
    have hdN : jC N p = ML.take (kJ ML i) := by rw [hML]; unfold jC sY; rw [List.length_mapIdx, hl]
    obtain ⟨x0, hx00, hxu0, _⟩ := g.first
    have hp0 : p ≠ 0 := fun e => h1 (by rw [e]; rfl)
    have hM0 : (ML.getD 0 n0).1 = true := by
      have : ML[0]? = some (offN p 0 x0) := by rw [hML, List.getElem?_mapIdx, hx00]; rfl
      rw [dF this, gC (fun e => hp0 e.symm)]
      exact hxu0
    have hlast1 : ∀ k, 1 ≤ k → 1 ≤ kJ ML k := by
      intro k hk
      induction k with
      | zero => omega
      | succ k ihk =>
        unfold kJ
        by_cases c9 : (ML.getD k n0).1 = true
        · rw [if_pos c9]; omega
        · rw [if_neg c9]
          by_cases e9 : k = 0
          · subst e9; exact absurd hM0 c9
          · exact ihk (by omega)
    repeat' (first | (apply aR) | ((apply aI); (first | (apply aV; first | exact aU hs rfl rfl aA | exact aJ hs rfl aA) | (apply aF; exact aB rfl aA) | (apply aT; exact aP rfl rfl aA) | (apply aK; exact aM rfl rfl rfl aA) | (apply bL; exact bY rfl aA)); first | (exact rfl; exact rfl) | exact rfl) | (apply bB) | (apply aG) | (apply bC) | (apply cI; refine cZ rfl ?_) | (apply aS; refine bK rfl ob ?_))
    clear ih
    refine dG (α := Nat) [(2, _), (4, _)] (fun m => [(11, .int .i64 m)]) (fun m w' => St w NoF w' [OwnN qi, TabN (some ⟨b, o, none⟩) i i (qi.map rawN), dH a2' n2 n2 rs', Own rs' (E.set i0 gone), Blk b4 (.cells #[.slice none 0 0, .slice none 0 0] 57 (0, 0)), Blk b3 (.cells #[.int .i64 ((p : Int) + 1)] 3 (0, 0)), Blk b2 (.cells #[.slice (some ⟨b, o, none⟩) i i, .slice a2' n2 n2] 57 (0, 0))] ∧ (1 ≤ m ∧ m ≤ i) ∧ kJ ML i = kJ ML m) (fun m => m) i ⟨hs, ⟨by omega, Nat.le_refl _⟩, rfl⟩ zss ?_
    rintro m w3 ⟨hs3, ⟨hm1, hmi⟩, hlu⟩ ih
    have hs : St w NoF w3 [_, _, _, _, _, _, _] := hs3
    have hmi2 : inK .i64 (m : Int) := by unfold inK; simp only [IntKind.min, IntKind.max, IntKind.bits, IntKind.signed]; omega
    have hgm : ML[m - 1]? = some (ML[m - 1]'(by omega)) := List.getElem?_eq_getElem (by omega)
    have hsl : ∀ {W : World} {L : List HP}, St w NoF W L → TabN (some ⟨b, o, none⟩) i i (qi.map rawN) ∈ L → OwnN qi ∈ L → Sl jD All W (some ⟨b, o, none⟩) i i ML := fun hs u1 u2 => Sl.to hqmi (slN hs u1 u2 hqoi)
    have hlm : kJ ML m = if (ML.getD (m - 1) n0).1 then m else kJ ML (m - 1) := by
      obtain ⟨k, rfl⟩ : ∃ k, m = k + 1 := ⟨m - 1, by omega⟩
      rw [Nat.add_sub_cancel]; rfl
    obtain ⟨ub, hub⟩ : ∃ u, (ML.getD (m - 1) n0).1 = u := ⟨_, rfl⟩
    have his : isM ML (m : Int) = ub := by
      unfold isM
      rw [decide_eq_true (by omega), show ((m : Int) - 1).toNat = m - 1 by omega, hub]; rfl
    rw [hub] at hlm
    cases ub with
    | false =>
      rw [if_neg (by decide)] at hlm
      have hm2 : 2 ≤ m := Decidable.by_contra fun c9 => by
        have := hlast1 m hm1
        rw [hlm, show m - 1 = 0 by omega] at this
        unfold kJ at this
        omega
      repeat' (first | ((apply aW 105; refine JL_o (by exact aC eT rfl (is_r _ (some ⟨b, o, none⟩) a2' i i n2 n2 ML (m : Int) (hsl hs zmm zmm) hmi2)) rfl rfl ?_; rintro _ _ ⟨rfl, hE⟩; rw [his]; have hs := hs.ext hE; (try simp only [zcc] at hs))) | (apply aR) | ((apply aI); (first | (apply aV; first | exact aU hs rfl rfl aA | exact aJ hs rfl aA) | (apply aQ; exact aH rfl aA) | (apply aF; exact aB rfl aA) | (apply dZ; exact dI rfl rfl (by omega) aA) | (apply cB; exact cE rfl aA)); first | (exact rfl; exact rfl) | exact rfl) | (apply bB) | (apply aG) | (apply bC) | (apply bN) | (apply bJ) | (apply aS; refine bZ rfl gb ?_))
      refine ih (m - 1) _ _ ⟨hs, ⟨by omega, by omega⟩, hlu.trans hlm⟩ (by omega) ?_
      rw [show ((m - 1 : Nat) : Int) = (m : Int) - 1 by omega]
      repeat' (first | exact trivial | exact rfl | apply And.intro)
    | true =>
      rw [if_pos rfl] at hlm
      repeat' (first | ((apply aW 105; refine JL_o (by exact aC eT rfl (is_r _ (some ⟨b, o, none⟩) a2' i i n2 n2 ML (m : Int) (hsl hs zmm zmm) hmi2)) rfl rfl ?_; rintro _ _ ⟨rfl, hE⟩; rw [his]; have hs := hs.ext hE; (try simp only [zcc] at hs))) | (apply aR) | ((apply aI); (first | (apply aV; first | exact aU hs rfl rfl aA | exact aJ hs rfl aA) | (apply eC; exact eH (kl := .i64) (kh := .i64) (km := .i64) (a' := some ⟨b, o, none⟩) (l := 0) (h := (m : Int)) (m := (m : Int)) rfl (.inl ⟨rfl, rfl⟩) (.inr ⟨_, rfl, rfl⟩) (.inr ⟨_, rfl, rfl⟩) (by omega) (by omega) (by omega) (by omega) (by split; rfl; exact addr0 _) (by rw [Int.sub_zero, Int.toNat_natCast]; exact aA)) | (apply aQ; exact aH rfl aA) | (apply aF; exact aB rfl aA) | (apply aT; exact aP rfl rfl aA) | (apply cB; exact cE rfl aA)); first | (exact rfl; exact rfl) | exact rfl) | (apply bB) | (apply aG) | (apply cI; refine cZ rfl ?_) | (apply bH; refine JL_u (by apply bA; exact aZ hs rfl rfl rfl) rfl ?_; rintro _ _ ⟨hs, hF⟩) | (apply aS; refine bV rfl gb ?_))
      have hs := St.cutN m (hs.sel [0, 1, 2, 3, 4] (by decide))
      have hs := St.cutRow (L := [_, _, _, _]) (hs.sel [1, 0, 2, 3, 4] (by decide)) m m hmi (Nat.le_refl _) hmi
      have hct : (encL cNd (qi.map rawN)).take (m * 4) = encL cNd ((qi.take m).map rawN) := by rw [List.map_take]; exact (iI (d := dRNd) (qi.map rawN) m).symm
      rw [hct] at hs
      have hdl : (jC N p).length = m := by rw [hdN, hlu, hlm, List.length_take]; omega
      refine aY Tryz.func38 rfl (.agg' hs rfl rfl (.tmp rfl .nil)) (.inr ⟨rfl, some ⟨b, o, none⟩, m, m, a2', n2, n2, rfl, hmi, qi.take m, E.set i0 gone, rs', ⟨by rw [List.map_take, hqmi, hdN, hlu, hlm], fun u hu => hqoi u (List.mem_of_mem_take hu)⟩, ⟨mK hcE he0 he01, sE hc hxp hxu he0 he01 he0t⟩, ⟨hdl, (gone_len i0).trans hl2, hn2⟩, hs.out (.cons_cons _ (.cons_cons _ (.cons_cons _ (.cons_cons _ (List.nil_sublist _)))))⟩)
end Go.Eng
end
section
namespace Go.Eng
open Go.Proofs
set_option linter.unusedSimpArgs false
set_option linter.unusedVariables false
def ofE (N : List NM) (E : List Ent) (t : List Int) : Int := if eG N E then ofC N t else 220
abbrev zG : Value := .agg #[.slice none 0 0, .slice none 0 0]
def GRes (w : World) (e : Int) (n : Int) (N' : List NM) (mx : Nat) (v : Value) (w' : World) : Prop :=
  (e ≠ 0 ∧ v = .tuple #[zG, .int .i64 0, .int .i64 e] ∧ Ext w w') ∨
  (e = 0 ∧ ∃ a' m' c' a2' m2 c2', v = .tuple #[.agg #[.slice a' m' c', .slice a2' m2 c2'], .int .i64 n, .int .i64 0] ∧ m' ≤ mx ∧ GOut w w' N' a' m' c' a2' m2 c2')
theorem GRes.bad {w w' : World} {e n : Int} {N' : List NM} {mx : Nat} {v : Value} (h : GRes w e n N' mx v w') (he : e ≠ 0) : v = .tuple #[zG, .int .i64 0, .int .i64 e] ∧ Ext w w' := by
  rcases h with ⟨_, r⟩ | ⟨h2, _⟩
  · exact r
  · exact absurd h2 he
theorem GRes.ok {w w' : World} {e n : Int} {N' : List NM} {mx : Nat} {v : Value} (h : GRes w e n N' mx v w') (he : e = 0) : ∃ a' m' c' a2' m2 c2', v = .tuple #[.agg #[.slice a' m' c', .slice a2' m2 c2'], .int .i64 n, .int .i64 0] ∧ m' ≤ mx ∧ GOut w w' N' a' m' c' a2' m2 c2' := by
  rcases h with ⟨h2, _⟩ | ⟨_, r⟩
  · exact absurd he h2
  · exact r
abbrev N00 : List NM := [newN []]
theorem gr_new : GR N00 := nodes_iff.1 (by decide)
theorem put_new {es : List Ent} (hc : dD es = true) (hp : (es.filter dW).Perm (allM (newE 8) ++ [(1, [], 1)])) : allM es = fC N00 := by
  refine yY hc gr_new.uniq fun e => ?_
  rw [hp.mem_iff, yX, List.nil_append, ents_mem, List.mem_singleton]
  constructor
  · rintro rfl; exact ⟨0, newN [], rfl, rfl, rfl⟩
  · rintro ⟨j, x, hx, hu, rfl⟩
    cases j with
    | zero => cases hx; rfl
    | succ j => cases hx
theorem putE_new : putE (newE 8) [] 1 = 0 := xC yU tw0 (by omega) (fun y hy => by rw [show (newE 8).filter dW = [] by decide] at hy; cases hy) (by rw [yX]; decide)
attribute [local irreducible] Hold J JL JD JX JXat OpR OpG Ret RetV Is Blk Row
set_option maxRecDepth 100000
set_option maxHeartbeats 1000000
theorem gnew_r (w : World) : Ret Tryz.prog 54 #[] w fun v w' => ∃ a' c' a2' m2 c2', v = .agg #[.slice a' 1 c', .slice a2' m2 c2'] ∧ GOut w w' N00 a' 1 c' a2' m2 c2' := by
  refine cG (l := []) Tryz.func54 rfl Tryz.ntmps54 (by simp) ?_
  have hs := St.init w
  have h1i : inK .i64 (1 : Int) := by unfold inK; simp only [IntKind.min, IntKind.max, IntKind.bits, IntKind.signed]; omega
  repeat' (first | ((apply aW 133; refine JL_o (by exact aC en133 rfl (new_r _)) rfl rfl ?_; rintro _ _ ⟨a1, rfl, hf⟩; have hs := hs.fresh hf; (try simp only [zcc] at hs))) | ((apply aW 132; refine JL_o (by exact aC en132 rfl (xA _ a1 8 8 (newE 8) none 0 0 [] 1 (lD hs zmm zmm) (by omega) (nil_sl _ _ _) h1i putE_new)) rfl rfl ?_; rintro _ _ ⟨es1, rs1, a4, ⟨hce1, hpe1, hle1⟩, rfl, hf⟩; have hs := hs.fresh hf; (try simp only [zcc] at hs))) | (apply aR) | ((apply aI); (first | (apply aV; first | exact aU hs rfl rfl aA | exact aJ hs rfl aA) | (apply aQ; exact aH rfl aA) | (apply aF; exact aB rfl aA) | (apply bS; exact bM rfl rfl aA) | (apply cY; exact cL rfl (by (simp only [bld, cQ, bQ, Value.cells, List.take_succ_cons, List.take_zero, List.drop_succ_cons, List.drop_zero, List.cons_append, List.nil_append, List.length_cons, List.length_nil, List.getElem?_cons_zero, List.getElem?_cons_succ, Option.map_some, List.append_nil, Nat.reduceAdd, Nat.reduceMul, Nat.zero_add, Nat.reduceLeDiff, and_self, if_true, List.toList_toArray, Nat.le_refl, Nat.zero_mul, Nat.one_mul]; first | done | rfl)) aA)); first | (exact rfl; exact rfl) | exact rfl) | (apply bB) | (apply aG) | (apply aL (t := 0); refine JL_o (by apply bE; exact aX hs) rfl rfl ?_; rintro _ _ ⟨b0, rfl, hb0, hs, hE⟩) | (apply aL (t := 1); refine JL_o (by apply bE; exact aX hs) rfl rfl ?_; rintro _ _ ⟨b1, rfl, hb1, hs, hE⟩) | (apply aL (t := 9); refine JL_o (by apply cV; exact cO hs rfl (by omega) rfl) rfl rfl ?_; rintro _ _ ⟨b9, rfl, hb9, hs, hE⟩) | (apply bH; refine JL_u (by apply bA; exact aZ hs rfl rfl rfl) rfl ?_; rintro _ _ ⟨hs, hF⟩))
  have hs := St.toRow (L := [_, _, _]) (hs.sel [0, 2, 3, 6] (by decide)) 0 1 1 4 (xs := encL cNd [rNew z0]) (Nat.le_refl _) (by unfold maxLen; omega) (by decide) rfl
  have hs := St.pushN (hs.nilN.zeroN true)
  refine aY Tryz.func54 rfl (.agg' hs rfl rfl .nil) ⟨_, 1, a4, es1.length, es1.length, rfl, [(true, (z0, []), (z0, []), (z0, []))], es1, rs1, ⟨rfl, fun q hq => by rw [List.mem_singleton.1 hq]; exact uE true⟩, ⟨hce1, put_new hce1 hpe1⟩, ⟨rfl, rfl, hle1⟩, (hs.sel [1, 0, 2, 3] (by decide)).out (List.Sublist.refl _)⟩
theorem xW (w : World) (a a2 : Option Addr) (n c n2 c2 : Nat) (N : List NM) (E : List Ent) (X0 id : Int) (h : Sl jD All w a n c N) (hE0 : Sl dEnt All w a2 n2 c2 E) (hn : n ≤ 900000) (hn2 : n2 ≤ 1048576) (hz : szN N) (hx0 : inK .i64 X0) (hid : okId id) :
    Ret Tryz.prog 35 #[.agg #[.slice a n c, .slice a2 n2 c2], .int .i64 X0, .int .u64 id] w (GRes w (goE N E X0 id true) (gon N X0 id true) (goL N X0 id true) (n + 1)) := by
  refine cG (l := [_, _, _]) Tryz.func35 rfl Tryz.ntmps35 (by simp) ?_
  have hs := St.init w
  by_cases he : goE N E X0 id true = 0
  · repeat' (first | ((apply aW 100; refine JL_o (by exact aC en100 rfl ((xX _ a a2 n c n2 c2 N E X0 id (h.st hs) (hE0.st hs) hn hn2 hz hx0 hid).mono (fun _ _ r => GRes.ok (mx := n + 1) r he))) rfl rfl ?_; rintro _ _ ⟨a', m', c', a2', m2, c2', rfl, hm', qs, es, rs', hq, hce, hnl, hf⟩; have hs := hs.fresh hf; (try simp only [zcc] at hs))) | (apply aR) | ((apply aI); (first | (apply aV; first | exact aU hs rfl rfl aA | exact aJ hs rfl aA) | (apply aQ; exact aH rfl aA) | (apply aF; exact aB rfl aA) | (apply bS; exact bM rfl rfl aA)); first | (exact rfl; exact rfl) | exact rfl) | (apply bB) | (apply aG) | (apply aL (t := 3); refine JL_o (by apply cD; exact bG hs rfl) rfl rfl ?_; rintro _ _ ⟨b3, rfl, hb3, hs, hE⟩) | (apply aL (t := 6); refine JL_o (by apply bE; exact aX hs) rfl rfl ?_; rintro _ _ ⟨b6, rfl, hb6, hs, hE⟩) | (apply bH; refine JL_u (by apply bA; exact aZ hs rfl rfl rfl) rfl ?_; rintro _ _ ⟨hs, hF⟩))
    refine aY Tryz.func35 rfl (.agg' hs rfl rfl (.tmp rfl (.tmp rfl .nil))) (.inr ⟨he, a', m', c', a2', m2, c2', rfl, hm', qs, es, rs', hq, hce, hnl, hs.out (.cons_cons _ (.cons_cons _ (.cons_cons _ (.cons_cons _ (List.nil_sublist _)))))⟩)
  · repeat' (first | ((apply aW 100; refine JL_o (by exact aC en100 rfl ((xX _ a a2 n c n2 c2 N E X0 id (h.st hs) (hE0.st hs) hn hn2 hz hx0 hid).mono (fun _ _ r => GRes.bad (mx := n + 1) r he))) rfl rfl ?_; rintro _ _ ⟨rfl, hE⟩; have hs := hs.ext hE; (try simp only [zcc] at hs))) | (apply aR) | ((apply aI); (first | (apply aV; first | exact aU hs rfl rfl aA | exact aJ hs rfl aA) | (apply aQ; exact aH rfl aA) | (apply aF; exact aB rfl aA) | (apply bS; exact bM rfl rfl aA)); first | (exact rfl; exact rfl) | exact rfl) | (apply bB) | (apply aG) | (apply aL (t := 3); refine JL_o (by apply cD; exact bG hs rfl) rfl rfl ?_; rintro _ _ ⟨b3, rfl, hb3, hs, hE⟩) | (apply aL (t := 6); refine JL_o (by apply bE; exact aX hs) rfl rfl ?_; rintro _ _ ⟨b6, rfl, hb6, hs, hE⟩) | (apply bH; refine JL_u (by apply bA; exact aZ hs rfl rfl rfl) rfl ?_; rintro _ _ ⟨hs, hF⟩))
    refine aY Tryz.func35 rfl (.agg' hs rfl rfl (.tmp rfl (.tmp rfl .nil))) (.inl ⟨he, rfl, hs.frm.ext⟩)
theorem gless_r (w : World) (a a2 : Option Addr) (n c n2 c2 : Nat) (N : List NM) (E : List Ent) (X0 id : Int) (h : Sl jD All w a n c N) (hE0 : Sl dEnt All w a2 n2 c2 E) (hn : n ≤ 900000) (hn2 : n2 ≤ 1048576) (hz : szN N) (hx0 : inK .i64 X0) (hid : okId id) :
    Ret Tryz.prog 36 #[.agg #[.slice a n c, .slice a2 n2 c2], .int .i64 X0, .int .u64 id] w (GRes w (goE N E X0 id false) (gon N X0 id false) (goL N X0 id false) (n + 1)) := by
  refine cG (l := [_, _, _]) Tryz.func36 rfl Tryz.ntmps36 (by simp) ?_
  have hs := St.init w
  by_cases he : goE N E X0 id false = 0
  · repeat' (first | ((apply aW 100; refine JL_o (by exact aC en100 rfl ((xY _ a a2 n c n2 c2 N E X0 id (h.st hs) (hE0.st hs) hn hn2 hz hx0 hid).mono (fun _ _ r => GRes.ok (mx := n + 1) r he))) rfl rfl ?_; rintro _ _ ⟨a', m', c', a2', m2, c2', rfl, hm', qs, es, rs', hq, hce, hnl, hf⟩; have hs := hs.fresh hf; (try simp only [zcc] at hs))) | (apply aR) | ((apply aI); (first | (apply aV; first | exact aU hs rfl rfl aA | exact aJ hs rfl aA) | (apply aQ; exact aH rfl aA) | (apply aF; exact aB rfl aA) | (apply bS; exact bM rfl rfl aA)); first | (exact rfl; exact rfl) | exact rfl) | (apply bB) | (apply aG) | (apply aL (t := 3); refine JL_o (by apply cD; exact bG hs rfl) rfl rfl ?_; rintro _ _ ⟨b3, rfl, hb3, hs, hE⟩) | (apply aL (t := 6); refine JL_o (by apply bE; exact aX hs) rfl rfl ?_; rintro _ _ ⟨b6, rfl, hb6, hs, hE⟩) | (apply bH; refine JL_u (by apply bA; exact aZ hs rfl rfl rfl) rfl ?_; rintro _ _ ⟨hs, hF⟩))
    refine aY Tryz.func36 rfl (.agg' hs rfl rfl (.tmp rfl (.tmp rfl .nil))) (.inr ⟨he, a', m', c', a2', m2, c2', rfl, hm', qs, es, rs', hq, hce, hnl, hs.out (.cons_cons _ (.cons_cons _ (.cons_cons _ (.cons_cons _ (List.nil_sublist _)))))⟩)
  · repeat' (first | ((apply aW 100; refine JL_o (by exact aC en100 rfl ((xY _ a a2 n c n2 c2 N E X0 id (h.st hs) (hE0.st hs) hn hn2 hz hx0 hid).mono (fun _ _ r => GRes.bad (mx := n + 1) r he))) rfl rfl ?_; rintro _ _ ⟨rfl, hE⟩; have hs := hs.ext hE; (try simp only [zcc] at hs))) | (apply aR) | ((apply aI); (first | (apply aV; first | exact aU hs rfl rfl aA | exact aJ hs rfl aA) | (apply aQ; exact aH rfl aA) | (apply aF; exact aB rfl aA) | (apply bS; exact bM rfl rfl aA)); first | (exact rfl; exact rfl) | exact rfl) | (apply bB) | (apply aG) | (apply aL (t := 3); refine JL_o (by apply cD; exact bG hs rfl) rfl rfl ?_; rintro _ _ ⟨b3, rfl, hb3, hs, hE⟩) | (apply aL (t := 6); refine JL_o (by apply bE; exact aX hs) rfl rfl ?_; rintro _ _ ⟨b6, rfl, hb6, hs, hE⟩) | (apply bH; refine JL_u (by apply bA; exact aZ hs rfl rfl rfl) rfl ?_; rintro _ _ ⟨hs, hF⟩))
    refine aY Tryz.func36 rfl (.agg' hs rfl rfl (.tmp rfl (.tmp rfl .nil))) (.inl ⟨he, rfl, hs.frm.ext⟩)
theorem gOf_r (w : World) (a a2 a3 : Option Addr) (n c n2 c2 n3 c3 : Nat) (N : List NM) (E : List Ent) (t : List Int) (h : Sl jD All w a n c N) (hE0 : Sl dEnt All w a2 n2 c2 E) (ht : Sl dId All w a3 n3 c3 t) (hn : n ≤ 900000) (hn2 : n2 ≤ 1048576) (hz : szN N) :
    Ret Tryz.prog 33 #[.agg #[.slice a n c, .slice a2 n2 c2], .slice a3 n3 c3] w (GRes w (ofE N E t) (ofn N t) (ofL N t) (n + 1)) := by
  refine cG (l := [_, _]) Tryz.func33 rfl Tryz.ntmps33 (by simp) ?_
  have hs := St.init w
  cases hc : eG N E with
  | false =>
    have heg := gO hc
    have eE : ofE N E t = 220 := by unfold ofE; rw [hc]; rfl
    rw [eE]
    repeat' (first | ((apply aW 46; refine JL_o (by exact aC en46 rfl (dM _ a a2 n c n2 c2 N E (h.st hs) (hE0.st hs) hn2 hz)) rfl rfl ?_; rintro _ _ ⟨rfl, hE⟩; rw [heg]; have hs := hs.ext hE; (try simp only [zcc] at hs))) | (apply aR) | ((apply aI); (first | (apply aV; first | exact aU hs rfl rfl aA | exact aJ hs rfl aA) | (apply aQ; exact aH rfl aA) | (apply aF; exact aB rfl aA) | (apply aK; exact aM rfl rfl rfl aA) | (apply cY; exact cL rfl (by (simp only [bld, cQ, bQ, Value.cells, List.take_succ_cons, List.take_zero, List.drop_succ_cons, List.drop_zero, List.cons_append, List.nil_append, List.length_cons, List.length_nil, List.getElem?_cons_zero, List.getElem?_cons_succ, Option.map_some, List.append_nil, Nat.reduceAdd, Nat.reduceMul, Nat.zero_add, Nat.reduceLeDiff, and_self, if_true, List.toList_toArray, Nat.le_refl, Nat.zero_mul, Nat.one_mul]; first | done | rfl)) aA)); first | (exact rfl; exact rfl) | exact rfl) | (apply bB) | (apply aG) | (apply aL (t := 2); refine JL_o (by apply cD; exact bG hs rfl) rfl rfl ?_; rintro _ _ ⟨b2, rfl, hb2, hs, hE⟩) | (apply aL (t := 4); refine JL_o (by apply bE; exact aX hs) rfl rfl ?_; rintro _ _ ⟨b4, rfl, hb4, hs, hE⟩) | (apply bH; refine JL_u (by apply bA; exact aZ hs rfl rfl rfl) rfl ?_; rintro _ _ ⟨hs, hF⟩) | (apply aS; refine bF rfl ob ?_))
    refine aY Tryz.func33 rfl (.agg' hs rfl rfl (.tmp rfl (.tmp rfl .nil))) (.inl ⟨by decide, rfl, hs.frm.ext⟩)
  | true =>
  have heg := jY hc
  have eE : ofE N E t = ofC N t := by unfold ofE; rw [hc]; rfl
  rw [eE]
  by_cases he : ofC N t = 0
  · repeat' (first | ((apply aW 46; refine JL_o (by exact aC en46 rfl (dM _ a a2 n c n2 c2 N E (h.st hs) (hE0.st hs) hn2 hz)) rfl rfl ?_; rintro _ _ ⟨rfl, hE⟩; rw [heg]; have hs := hs.ext hE; (try simp only [zcc] at hs))) | ((apply aW 99; refine JL_o (by exact aC en99 rfl (xZ _ a a2 a3 n c n2 c2 n3 c3 N E t (h.st hs) (hE0.st hs) (ht.st hs) hn hn2 hz hc he)) rfl rfl ?_; rintro _ _ ⟨a', m', c', a2', m2, c2', rfl, hm', qs, es, rs', hq, hce, hnl, hf⟩; have hs := hs.fresh hf; (try simp only [zcc] at hs))) | (apply aR) | ((apply aI); (first | (apply aV; first | exact aU hs rfl rfl aA | exact aJ hs rfl aA) | (apply aQ; exact aH rfl aA) | (apply aF; exact aB rfl aA) | (apply aK; exact aM rfl rfl rfl aA) | (apply bS; exact bM rfl rfl aA)); first | (exact rfl; exact rfl) | exact rfl) | (apply bB) | (apply aG) | (apply bJ) | (apply aL (t := 2); refine JL_o (by apply cD; exact bG hs rfl) rfl rfl ?_; rintro _ _ ⟨b2, rfl, hb2, hs, hE⟩) | (apply aL (t := 4); refine JL_o (by apply bE; exact aX hs) rfl rfl ?_; rintro _ _ ⟨b4, rfl, hb4, hs, hE⟩) | (apply bH; refine JL_u (by apply bA; exact aZ hs rfl rfl rfl) rfl ?_; rintro _ _ ⟨hs, hF⟩) | (apply aS; refine bK rfl ob ?_))
    refine aY Tryz.func33 rfl (.agg' hs rfl rfl (.tmp rfl (.tmp rfl .nil))) (.inr ⟨he, a', m', c', a2', m2, c2', rfl, hm', qs, es, rs', hq, hce, hnl, hs.out (.cons_cons _ (.cons_cons _ (.cons_cons _ (.cons_cons _ (List.nil_sublist _)))))⟩)
  · repeat' (first | ((apply aW 46; refine JL_o (by exact aC en46 rfl (dM _ a a2 n c n2 c2 N E (h.st hs) (hE0.st hs) hn2 hz)) rfl rfl ?_; rintro _ _ ⟨rfl, hE⟩; rw [heg]; have hs := hs.ext hE; (try simp only [zcc] at hs))) | ((apply aW 99; refine JL_o (by exact aC en99 rfl (tH _ a a2 a3 n c n2 c2 n3 c3 N E t (h.st hs) (hE0.st hs) (ht.st hs) hn hn2 hz hc he)) rfl rfl ?_; rintro _ _ ⟨rfl, hE⟩; have hs := hs.ext hE; (try simp only [zcc] at hs))) | (apply aR) | ((apply aI); (first | (apply aV; first | exact aU hs rfl rfl aA | exact aJ hs rfl aA) | (apply aQ; exact aH rfl aA) | (apply aF; exact aB rfl aA) | (apply aK; exact aM rfl rfl rfl aA) | (apply bS; exact bM rfl rfl aA)); first | (exact rfl; exact rfl) | exact rfl) | (apply bB) | (apply aG) | (apply bJ) | (apply aL (t := 2); refine JL_o (by apply cD; exact bG hs rfl) rfl rfl ?_; rintro _ _ ⟨b2, rfl, hb2, hs, hE⟩) | (apply aL (t := 4); refine JL_o (by apply bE; exact aX hs) rfl rfl ?_; rintro _ _ ⟨b4, rfl, hb4, hs, hE⟩) | (apply bH; refine JL_u (by apply bA; exact aZ hs rfl rfl rfl) rfl ?_; rintro _ _ ⟨hs, hF⟩) | (apply aS; refine bK rfl ob ?_))
    refine aY Tryz.func33 rfl (.agg' hs rfl rfl (.tmp rfl (.tmp rfl .nil))) (.inl ⟨he, rfl, hs.frm.ext⟩)
end Go.Eng
end
section
namespace Go.Eng
open Go.Proofs
set_option linter.unusedSimpArgs false
set_option linter.unusedVariables false
abbrev cC : Int := 4611686018427387907
abbrev cP : Int := 9223372054034644997
abbrev W1 : List NM := [(true, [], [(cC, 2)], []), (true, [cC], [], [(cC, 1)])]
abbrev W2 : List NM := [(true, [], [(cC, 2)], []), (true, [cC], [(cP, 3)], [(cC, 1)]), (true, [cC, cP], [], [(cP, 2)])]
set_option maxRecDepth 100000
theorem wk1 : goC N00 1 cC true = 0 ∧ gon N00 1 cC true = 2 ∧ goL N00 1 cC true = W1 := ⟨by kernel_rfl, by kernel_rfl, by kernel_rfl⟩
theorem wk2 : goC W1 2 cP true = 0 ∧ gon W1 2 cP true = 3 ∧ goL W1 2 cP true = W2 := ⟨by kernel_rfl, by kernel_rfl, by kernel_rfl⟩
theorem wk3 : goC W2 3 cC false = 0 ∧ gon W2 3 cC false = 4 := ⟨by kernel_rfl, by kernel_rfl⟩
theorem wk4 : drC W2 2 = 0 ∧ lB (drL W2 2) = [1, 3] ∧ lB W2 = [1, 2, 3] := ⟨by kernel_rfl, by kernel_rfl, by kernel_rfl⟩
theorem goE_of {N : List NM} {E : List Ent} {n id : Int} {plus : Bool} (g : GR N) (hc : dD E = true) (hA : allM E = fC N) : goE N E n id plus = goC N n id plus := by unfold goE; rw [check_iff.2 ⟨g, hc, hA⟩]; rfl
theorem drE_of {N : List NM} {E : List Ent} {n : Int} (g : GR N) (hc : dD E = true) (hA : allM E = fC N) : drE N E n = drC N n := by unfold drE; rw [check_iff.2 ⟨g, hc, hA⟩]; rfl
theorem pT {N : List NM} {E : List Ent} (g : GR N) (hc : dD E = true) (hA : allM E = fC N) : pU N E = lB N := by unfold pU; rw [check_iff.2 ⟨g, hc, hA⟩]; rfl
theorem dr_GR {N : List NM} {n : Int} (g : GR N) (h : drC N n = 0) : GR (drL N n) := by
  unfold drC at h
  cases hi : isM N n with
  | false => rw [hi, Bool.false_and] at h; exact absurd h (by decide)
  | true =>
    obtain ⟨p, x, rfl, hx, hu⟩ := isM_true.1 hi
    by_cases h1 : (p : Int) + 1 = 1
    · rw [hi, decide_eq_true h1] at h; exact absurd h (by decide)
    · have e : drL N ((p : Int) + 1) = jC N p := by
        unfold drL drC
        rw [hi, decide_eq_false h1, show ((p : Int) + 1 - 1).toNat = p by omega]; rfl
      rw [e]
      exact drop_GR g hx hu (fun e => h1 (by rw [e]; rfl))
theorem slG {w0 w : World} {F : Nat → Prop} {L : List HP} {a : Option Addr} {n c : Nat} {qs : List QN} {N : List NM} (hs : St w0 F w L) (hq : qs.map iG = N) (hqo : ∀ q ∈ qs, okN q) (h1 : TabN a n c (qs.map rawN) ∈ L) (h2 : OwnN qs ∈ L) : Sl jD All w a n c N := Sl.to hq (slN hs h1 h2 hqo)
theorem GRes.goes {w w' : World} {N : List NM} {E : List Ent} {n id : Int} {plus : Bool} {k : Int} {N' : List NM} {mx : Nat} {v : Value} (r : GRes w (goE N E n id plus) (gon N n id plus) (goL N n id plus) mx v w') (g : GR N) (hc : dD E = true) (hA : allM E = fC N) (h1 : goC N n id plus = 0) (h2 : gon N n id plus = k) (h3 : goL N n id plus = N') :
    ∃ a' m' c' a2' m2 c2', v = .tuple #[.agg #[.slice a' m' c', .slice a2' m2 c2'], .int .i64 k, .int .i64 0] ∧ m' ≤ mx ∧ GOut w w' N' a' m' c' a2' m2 c2' := by
  rw [goE_of g hc hA, h2, h3] at r
  exact r.ok h1
attribute [local irreducible] Hold J JL JD JX JXat OpR OpG Ret RetV Is Blk Row
set_option maxHeartbeats 2000000
theorem comp3_r (w : World) : Ret Tryz.prog 91 #[.int .i64 3] w fun v w' => v = .tuple #[.int .u64 cC, .int .i64 0] ∧ Ext w w' := by
  refine cG (l := [_]) Tryz.func91 rfl Tryz.ntmps91 (by simp) ?_
  have hs := St.init w
  have h3 : inK .i64 (3 : Int) := by unfold inK; simp only [IntKind.min, IntKind.max, IntKind.bits, IntKind.signed]; omega
  have hin : [(3 : Int)].all (inB 1 24) = true := by decide
  repeat' (first | ((apply aL (t := 5); refine JL_o (by apply cV; exact cO hs rfl (by omega) rfl) rfl rfl ?_; rintro _ _ ⟨b5, rfl, hb5, hs, hE⟩; have hs := hs.toRow 0 1 1 1 (xs := [3].map (.int .i64)) (Nat.le_refl _) (by unfold maxLen; omega) (by decide) rfl)) | ((apply aW 165; refine JL_o (by exact aC tO rfl (jO _ 1 24 (some ⟨b5, 0, none⟩) 1 1 [3] ((RowV.sl (hs.row (some ⟨b5, 0, none⟩) 1 1) (fun v hv => by rw [List.mem_singleton.1 hv]; exact h3)).weak (fun _ _ => trivial)))) rfl rfl ?_; rintro _ _ ⟨rfl, hE⟩; rw [hin]; have hs := hs.ext hE; (try simp only [zcc] at hs))) | ((apply aW 166; refine JL_o (by exact aC vS rfl (kX _ 4611686018427387904 0 3 (.inr (.inl rfl)) (by omega) (by omega))) rfl rfl ?_; rintro _ _ ⟨rfl, hE⟩; have hs := hs.ext hE; (try simp only [zcc] at hs))) | (apply aR) | ((apply aI); (first | (apply aQ; exact aH rfl aA) | (apply aF; exact aB rfl aA) | (apply cB; exact cE rfl aA)); first | (exact rfl; exact rfl) | exact rfl) | (apply bB) | (apply aG) | (apply bJ) | (apply aS; refine bV rfl gb ?_))
  refine aY Tryz.func91 rfl (.tmp rfl (.tmp rfl .nil)) ⟨rfl, hs.frm.ext⟩
theorem pair45_r (w : World) : Ret Tryz.prog 92 #[.int .i64 4, .int .i64 5] w fun v w' => v = .tuple #[.int .u64 cP, .int .i64 0] ∧ Ext w w' := by
  refine cG (l := [_, _]) Tryz.func92 rfl Tryz.ntmps92 (by simp) ?_
  have hs := St.init w
  have h45 : ∀ v ∈ [(4 : Int), 5], inK .i64 v := fun v hv => by
    simp only [List.mem_cons, List.not_mem_nil, or_false] at hv
    unfold inK; simp only [IntKind.min, IntKind.max, IntKind.bits, IntKind.signed]; omega
  have hin : [(4 : Int), 5].all (inB 0 1048578) = true := by decide
  repeat' (first | ((apply aL (t := 8); refine JL_o (by apply cV; exact cO hs rfl (by omega) rfl) rfl rfl ?_; rintro _ _ ⟨b5, rfl, hb5, hs, hE⟩; have hs := hs.toRow 0 2 2 1 (xs := [4, 5].map (.int .i64)) (Nat.le_refl _) (by unfold maxLen; omega) (by decide) rfl)) | ((apply aW 165; refine JL_o (by exact aC tO rfl (jO _ 0 1048578 (some ⟨b5, 0, none⟩) 2 2 [4, 5] ((RowV.sl (hs.row (some ⟨b5, 0, none⟩) 2 2) h45).weak (fun _ _ => trivial)))) rfl rfl ?_; rintro _ _ ⟨rfl, hE⟩; rw [hin]; have hs := hs.ext hE; (try simp only [zcc] at hs))) | ((apply aW 166; refine JL_o (by exact aC vS rfl (kX _ 9223372036854775808 4 5 (.inr (.inr rfl)) (by omega) (by omega))) rfl rfl ?_; rintro _ _ ⟨rfl, hE⟩; have hs := hs.ext hE; (try simp only [zcc] at hs))) | (apply aR) | ((apply aI); (first | (apply aQ; exact aH rfl aA) | (apply aF; exact aB rfl aA) | (apply cB; exact cE rfl aA)); first | (exact rfl; exact rfl) | exact rfl) | (apply bB) | (apply aG) | (apply bJ) | (apply aS; refine bV rfl gb ?_))
  refine aY Tryz.func92 rfl (.tmp rfl (.tmp rfl .nil)) ⟨rfl, hs.frm.ext⟩
theorem uJ (w : World) (a1 a2 : Option Addr) (n1 c1 n2 c2 : Nat) (xs ys : List Int) (h1 : Sl (tInt .i64) All w a1 n1 c1 xs) (h2 : Sl (tInt .i64) All w a2 n2 c2 ys) :
    Ret Tryz.prog 48 #[.slice a1 n1 c1, .slice a2 n2 c2] w fun v w' => v = .bool (decide (xs = ys)) ∧ Ext w w' := by
  refine cG (l := [_, _]) Tryz.func48 rfl Tryz.ntmps48 (by simp) ?_
  have hs := St.init w
  have hl1 := h1.len
  have hl2 := h2.len
  have hmx : n1 ≤ 9223372036854775807 := by have h3 := h1.le; have h4 := h1.cap; unfold maxLen at h4; omega
  by_cases hn : n1 = n2
  · subst hn
    repeat' (first | (apply aR) | ((apply aI); (first | (apply aQ; exact aH rfl aA) | (apply aF; exact aB rfl aA) | (apply aK; exact aM rfl rfl rfl aA) | (apply bL; exact bY rfl aA)); first | (exact rfl; exact rfl) | exact rfl) | (apply bB) | (apply aG) | (apply bC) | (apply bJ) | (apply aS; refine bK rfl ob ?_))
    refine dG (α := Nat) [(0, _), (1, _), (12, _)] (fun k => [(13, .int .i64 k)]) (fun k w' => St w NoF w' [] ∧ k ≤ n1 ∧ xs.take k = ys.take k) (fun k => n1 - k) 0 ⟨hs, Nat.zero_le _, rfl⟩ zss ?_
    rintro k w2 ⟨hs1, hk, heq⟩ ih
    have hs : St w NoF w2 [] := hs1
    by_cases hlt : k < n1
    · obtain ⟨p, o, rfl⟩ := h1.sl.addr (by omega)
      obtain ⟨p2, o2, rfl⟩ := h2.sl.addr (by omega)
      have hs : St w NoF w2 [] := hs1
      have hx : xs[k]? = some (xs[k]'(by omega)) := List.getElem?_eq_getElem (by omega)
      have hy : ys[k]? = some (ys[k]'(by omega)) := List.getElem?_eq_getElem (by omega)
      obtain ⟨x, hxd⟩ : ∃ x, x = xs[k]'(by omega) := ⟨_, rfl⟩
      obtain ⟨y, hyd⟩ : ∃ y, y = ys[k]'(by omega) := ⟨_, rfl⟩
      rw [← hxd] at hx
      rw [← hyd] at hy
      by_cases hc : x = y
      · have hc2 : x = y := hc
        repeat' (first | (apply aR) | ((first | (apply aI) | (apply JX_f; exact rfl; intro W X hs)); (first | (apply aV; first | exact bU (b := p) (o := o) (i := k) (j := 0) (h1.st hs) hx rfl rfl rfl aA | exact bU (b := p2) (o := o2) (i := k) (j := 0) (h2.st hs) hy rfl rfl rfl aA) | (apply aQ; exact aH rfl aA) | (apply aF; exact aB rfl aA) | (apply cJ; exact bR rfl rfl (by omega) (by first | (simp only [Int.reduceAdd]; exact rfl) | exact rfl) aA) | (apply aK; exact aM rfl rfl rfl aA) | (apply aO; exact aN rfl rfl (by omega) (by omega) aA)); first | (exact rfl; exact rfl) | exact rfl) | (apply bB) | (apply aG) | (apply bC) | (apply bN) | (apply bJ) | (apply aS; first | refine bF rfl ob ?_ | refine bK rfl ob ?_) | (apply dB; (refine dE (id := 6) [0, 0, 3, 7, 0, 0, 48, 112, 255] [(0, 0), (1, 0), (2, 0), (3, 0), (4, 0), (5, 0), (6, 0), (7, 0), (8, 0)] [] hs eI (by kernel_rfl) (by kernel_rfl) (by kernel_rfl) (by kernel_rfl) (by kernel_rfl) ?_)) | (refine dA (fun W hs => ?_)) | (apply dP))
        refine ih (k + 1) _ _ ⟨hs, hlt, kC hx (by rw [hc]; exact hy) heq⟩ (by omega) zss
      · have hc2 : ¬ x = y := hc
        repeat' (first | (apply aR) | ((first | (apply aI) | (apply JX_f; exact rfl; intro W X hs)); (first | (apply aV; first | exact bU (b := p) (o := o) (i := k) (j := 0) (h1.st hs) hx rfl rfl rfl aA | exact bU (b := p2) (o := o2) (i := k) (j := 0) (h2.st hs) hy rfl rfl rfl aA) | (apply aQ; exact aH rfl aA) | (apply aF; exact aB rfl aA) | (apply aK; exact aM rfl rfl rfl aA) | (apply aO; exact aN rfl rfl (by omega) (by omega) aA)); first | (exact rfl; exact rfl) | exact rfl) | (apply bB) | (apply aG) | (apply bC) | (apply bJ) | (apply aS; refine bF rfl ob ?_) | (apply dB; (refine dE (id := 6) [0, 0, 3, 7, 0, 0, 48, 112, 255] [(0, 0), (1, 0), (2, 0), (3, 0), (4, 0), (5, 0), (6, 0), (7, 0), (8, 0)] [] hs eI (by kernel_rfl) (by kernel_rfl) (by kernel_rfl) (by kernel_rfl) (by kernel_rfl) ?_)) | (refine dA (fun W hs => ?_)) | (apply dP))
        refine aY Tryz.func48 rfl (.tmp rfl .nil) ⟨congrArg Value.bool (decide_eq_false fun e => hc (by subst e; rw [hx] at hy; exact Option.some.inj hy)).symm, hs.frm.ext⟩
    · rw [List.take_of_length_le (by omega), List.take_of_length_le (by omega)] at heq
      repeat' (first | (apply aR) | ((apply aI); (first | (apply aF; exact aB rfl aA) | (apply aK; exact aM rfl rfl rfl aA)); first | (exact rfl; exact rfl) | exact rfl) | (apply bB) | (apply aG) | (apply cI; refine cZ rfl ?_) | (apply aS; refine bK rfl ob ?_))
      refine aY Tryz.func48 rfl (.tmp rfl .nil) ⟨congrArg Value.bool (decide_eq_true heq).symm, hs.frm.ext⟩
  · repeat' (first | (apply aR) | ((apply aI); (first | (apply aQ; exact aH rfl aA) | (apply aF; exact aB rfl aA) | (apply aK; exact aM rfl rfl rfl aA) | (apply bL; exact bY rfl aA)); first | (exact rfl; exact rfl) | exact rfl) | (apply bB) | (apply aG) | (apply aS; refine bF rfl ob ?_))
    refine aY Tryz.func48 rfl (.tmp rfl .nil) ⟨congrArg Value.bool (decide_eq_false fun e => hn (by rw [← hl1, ← hl2, e])).symm, hs.frm.ext⟩
theorem yA (w : World) : Ret Tryz.prog 30 #[] w fun v w' => v = .bool true ∧ Ext w w' := by
  refine cG (l := []) Tryz.func30 rfl Tryz.ntmps30 (by simp) ?_
  have hs := St.init w
  obtain ⟨a1, a2, a3⟩ := wk1
  obtain ⟨b1, b2, b3⟩ := wk2
  obtain ⟨c1, c2⟩ := wk3
  obtain ⟨d1, d2, d3⟩ := wk4
  have g0 := gr_new
  have g1 : GR W1 := by have := go_GR g0 a1; rw [a3] at this; exact this
  have g2 : GR W2 := by have := go_GR g1 b1; rw [b3] at this; exact this
  have z0 : szN N00 := by decide
  have z1 : szN W1 := by decide
  have z2 : szN W2 := by decide
  have i1 : inK .i64 (1 : Int) := by unfold inK; simp only [IntKind.min, IntKind.max, IntKind.bits, IntKind.signed]; omega
  have i2 : inK .i64 (2 : Int) := by unfold inK; simp only [IntKind.min, IntKind.max, IntKind.bits, IntKind.signed]; omega
  have i3 : inK .i64 (3 : Int) := by unfold inK; simp only [IntKind.min, IntKind.max, IntKind.bits, IntKind.signed]; omega
  have iC : okId cC := by show inK .u64 (4611686018427387907 : Int); unfold inK; simp only [IntKind.min, IntKind.max, IntKind.bits, IntKind.signed]; omega
  have iP : okId cP := by show inK .u64 (9223372054034644997 : Int); unfold inK; simp only [IntKind.min, IntKind.max, IntKind.bits, IntKind.signed]; omega
  have g4 : GR (drL W2 2) := dr_GR g2 d1
  have z4 : szN (drL W2 2) := by decide
  have h13 : ∀ v ∈ [(1 : Int), 3], inK .i64 v := fun v hv => by
    simp only [List.mem_cons, List.not_mem_nil, or_false] at hv
    unfold inK; simp only [IntKind.min, IntKind.max, IntKind.bits, IntKind.signed]; omega
  have h123 : ∀ v ∈ [(1 : Int), 2, 3], inK .i64 v := fun v hv => by
    simp only [List.mem_cons, List.not_mem_nil, or_false] at hv
    unfold inK; simp only [IntKind.min, IntKind.max, IntKind.bits, IntKind.signed]; omega
  repeat' (first | ((apply aW 91; refine JL_o (by exact aC en91 rfl (comp3_r _)) rfl rfl ?_; rintro _ _ ⟨rfl, hE⟩; have hs := hs.ext hE; (try simp only [zcc] at hs))) | ((apply aW 92; refine JL_o (by exact aC en92 rfl (pair45_r _)) rfl rfl ?_; rintro _ _ ⟨rfl, hE⟩; have hs := hs.ext hE; (try simp only [zcc] at hs))) | ((apply aW 54; refine JL_o (by exact aC en54 rfl (gnew_r _)) rfl rfl ?_; rintro _ _ ⟨t1, u1, t2, m2, u2, rfl, qs0, es0, rs0, ⟨hq0, ho0⟩, ⟨he0, hA0⟩, ⟨hl0, hm0, hx0⟩, hf⟩; have hs := hs.fresh hf; (try simp only [zcc] at hs))) | ((apply aW 35; refine JL_o (by exact aC en35 rfl ((xW _ t1 t2 1 u1 m2 u2 N00 es0 1 cC (slG hs hq0 ho0 zmm zmm) (lD hs zmm zmm) (by omega) hx0 z0 i1 iC).mono (fun _ _ r => r.goes g0 he0 hA0 a1 a2 a3))) rfl rfl ?_; rintro _ _ ⟨t3, k3, u3, t4, m4, u4, rfl, hk3, qs1, es1, rs1, ⟨hq1, ho1⟩, ⟨he1, hA1⟩, ⟨hl1, hm1, hx1⟩, hf⟩; have hs := hs.fresh hf; (try simp only [zcc] at hs))) | ((apply aW 35; refine JL_o (by exact aC en35 rfl ((xW _ t3 t4 k3 u3 m4 u4 W1 es1 2 cP (slG hs hq1 ho1 zmm zmm) (lD hs zmm zmm) (by omega) hx1 z1 i2 iP).mono (fun _ _ r => r.goes g1 he1 hA1 b1 b2 b3))) rfl rfl ?_; rintro _ _ ⟨t5, k5, u5, t6, m6, u6, rfl, hk5, qs2, es2, rs2, ⟨hq2, ho2⟩, ⟨he2, hA2⟩, ⟨hl2, hm2, hx2⟩, hf⟩; have hs := hs.fresh hf; (try simp only [zcc] at hs))) | ((apply aW 36; refine JL_o (by exact aC en36 rfl ((gless_r _ t5 t6 k5 u5 m6 u6 W2 es2 3 cC (slG hs hq2 ho2 zmm zmm) (lD hs zmm zmm) (by omega) hx2 z2 i3 iC).mono (fun _ _ r => r.goes g2 he2 hA2 c1 c2 rfl))) rfl rfl ?_; rintro _ _ ⟨t7, k7, u7, t8, m8, u8, rfl, hk7, qs3, es3, rs3, ⟨hq3, ho3⟩, ⟨he3, hA3⟩, ⟨hl3, hm3, hx3⟩, hf⟩; have hs := hs.fresh hf; (try simp only [zcc] at hs))) | ((apply aW 38; refine JL_o (by exact aC en38 rfl (((gdrop_r _ t5 t6 k5 u5 m6 u6 W2 es2 2 (slG hs hq2 ho2 zmm zmm) (lD hs zmm zmm) (by omega) hx2 z2 i2).mono (fun _ _ r => r.resolve_left (fun e => e.1 (by rw [drE_of g2 he2 hA2]; exact d1)))))) rfl rfl ?_; rintro _ _ ⟨_, t9, k9, u9, t10, m10, u10, rfl, hk9, qs4, es4, rs4, ⟨hq4, ho4⟩, ⟨he4, hA4⟩, ⟨hl4, hm4, hx4⟩, hf⟩; have hs := hs.fresh hf; (try simp only [zcc] at hs))) | ((apply cN 49; refine cX rfl gb (by exact aC en49 rfl ((tJ _ t9 t10 k9 u9 m10 u10 (drL W2 2) es4 (slG hs hq4 ho4 zmm zmm) (lD hs zmm zmm) (by omega) hx4 z4).mono (fun _ _ r => by rw [pT g4 he4 hA4, d2] at r; exact r))) rfl rfl ?_; rintro _ _ ⟨t11, u11, rfl, hf⟩; have hs := hs.fresh hf; (try simp only [zcc] at hs))) | ((refine cX (t := 81) rfl gb (by apply cV; exact cO hs rfl (by omega) rfl) rfl rfl ?_; rintro _ _ ⟨q1, rfl, hq1b, hs, hE⟩; have hs := hs.toRow 0 2 2 1 (xs := [(1 : Int), 3].map (.int .i64)) (Nat.le_refl _) (by unfold maxLen; omega) (by decide) rfl)) | ((apply cN 48; refine cX rfl gb (by exact aC en48 rfl (uJ _ t11 (some ⟨q1, 0, none⟩) 2 u11 2 2 [1, 3] [1, 3] ((RowV.sl (hs.row t11 2 u11) h13).weak (fun _ _ => trivial)) ((RowV.sl (hs.row (some ⟨q1, 0, none⟩) 2 2) h13).weak (fun _ _ => trivial)))) rfl rfl ?_; rintro _ _ ⟨rfl, hE⟩; have hs := hs.ext hE; (try simp only [zcc] at hs))) | ((apply cN 49; refine cX rfl gb (by exact aC en49 rfl ((tJ _ t5 t6 k5 u5 m6 u6 W2 es2 (slG hs hq2 ho2 zmm zmm) (lD hs zmm zmm) (by omega) hx2 z2).mono (fun _ _ r => by rw [pT g2 he2 hA2, d3] at r; exact r))) rfl rfl ?_; rintro _ _ ⟨t12, u12, rfl, hf⟩; have hs := hs.fresh hf; (try simp only [zcc] at hs))) | ((refine cX (t := 87) rfl gb (by apply cV; exact cO hs rfl (by omega) rfl) rfl rfl ?_; rintro _ _ ⟨q2, rfl, hq2b, hs, hE⟩; have hs := hs.toRow 0 3 3 1 (xs := [(1 : Int), 2, 3].map (.int .i64)) (Nat.le_refl _) (by unfold maxLen; omega) (by decide) rfl)) | ((apply cN 48; refine cX rfl gb (by exact aC en48 rfl (uJ _ t12 (some ⟨q2, 0, none⟩) 3 u12 3 3 [1, 2, 3] [1, 2, 3] ((RowV.sl (hs.row t12 3 u12) h123).weak (fun _ _ => trivial)) ((RowV.sl (hs.row (some ⟨q2, 0, none⟩) 3 3) h123).weak (fun _ _ => trivial)))) rfl rfl ?_; rintro _ _ ⟨rfl, hE⟩; have hs := hs.ext hE; (try simp only [zcc] at hs))) | (apply aR) | ((first | (apply aI) | (apply bX; exact rfl; exact gb)); (first | (apply aQ; exact aH rfl aA) | (apply aF; exact aB rfl aA) | (apply aV; exact aJ hs rfl aA) | (apply aK; exact aM rfl rfl rfl aA) | (apply cF; exact bW rfl gb rfl aA) | (apply bS; exact bM rfl rfl aA)); first | (exact rfl; exact rfl) | exact rfl) | (apply bB) | (apply aG) | (apply aL (t := 5); refine JL_o (by apply bE; exact aX hs) rfl rfl ?_; rintro _ _ ⟨b5, rfl, hb5, hs, hE⟩) | (apply aL (t := 8); refine JL_o (by apply bE; exact aX hs) rfl rfl ?_; rintro _ _ ⟨b8, rfl, hb8, hs, hE⟩) | (apply aL (t := 11); refine JL_o (by apply bE; exact aX hs) rfl rfl ?_; rintro _ _ ⟨b11, rfl, hb11, hs, hE⟩) | (apply aL (t := 14); refine JL_o (by apply bE; exact aX hs) rfl rfl ?_; rintro _ _ ⟨b14, rfl, hb14, hs, hE⟩) | (apply bH; refine JL_u (by apply bA; exact aZ hs rfl rfl rfl) rfl ?_; rintro _ _ ⟨hs, hF⟩))
  refine aY Tryz.func30 rfl (.tmp rfl .nil) ⟨rfl, hs.frm.ext⟩
end Go.Eng
end
section
namespace Go.Eng
open Go.Proofs
set_option linter.unusedSimpArgs false
set_option linter.unusedVariables false
theorem Sl.cutM {α : Type} {d : Ty α} {R : Nat → Prop} {w : World} {a : Option Addr} {n c : Nat} {xs : List α} (h : Sl d R w a n c xs) (m : Nat) : Sl d R w a (min n m) c (xs.take m) := by
  have h1 := h.cut (min n m) (Nat.min_le_left _ _)
  have hl := h.len
  have e : xs.take (min n m) = xs.take m := by rw [← hl, Nat.min_comm, ← List.take_eq_take_min]
  rwa [e] at h1
attribute [local irreducible] Hold J JL JD JX JXat OpR OpG Ret RetV Is Blk Row
set_option maxRecDepth 100000
set_option maxHeartbeats 2000000
end Go.Eng
end
section
namespace Go.Eng
open Go.Proofs
set_option linter.unusedSimpArgs false
set_option linter.unusedVariables false
attribute [local irreducible] Hold J JL JD JX JXat OpR OpG Ret RetV Is Blk Row
set_option maxRecDepth 100000
set_option maxHeartbeats 2000000
end Go.Eng
end
section
namespace Go.Eng
open Go.Proofs
set_option linter.unusedSimpArgs false
set_option linter.unusedVariables false
theorem getD_neG {α : Type} [DecidableEq α] {xs ys : List α} {k : Nat} {x y : α} (hx : xs[k]? = some x) (hy : ys[k]? = some y) (h : ¬ x = y) : decide (xs = ys) = false := decide_eq_false fun e => h (by subst e; rw [hx] at hy; exact Option.some.inj hy)
def bndN (b : Nat) (N : List NM) : Prop := ∀ x ∈ N, x.2.1.length ≤ b ∧ x.2.2.1.length ≤ b ∧ x.2.2.2.length ≤ b
theorem bndN.sz {b : Nat} {N : List NM} (h : bndN b N) (hb : b ≤ 1000000) : szN N := fun x hx => by
  obtain ⟨h1, h2, h3⟩ := h x hx
  exact ⟨by omega, by omega, by omega⟩
theorem bndN.of {b : Nat} {N : List NM} (h : bndN b N) {T : List Int} (hT : T.length ≤ b) : bndN b (ofL N T) := fun x hx => by
  unfold ofL at hx
  split at hx
  · split at hx
    · exact h x hx
    · obtain ⟨i, hi⟩ := List.mem_iff_getElem?.1 hx
      rw [gM (fB N)] at hi
      split at hi
      · cases hi; exact ⟨hT, Nat.zero_le _, Nat.zero_le _⟩
      · exact h x (List.mem_of_getElem? hi)
  · cases hx
end Go.Eng
end
section
namespace Go.Eng
open Go.RowKit Go.Sort Go.Proofs
section
variable {P : Program} {ρ : Go.Shelf.Ren} {α : Type} [Inhabited α] {enc : α → Value} {w : World} {a : Option Addr} {n c e : Nat} {xs : List α}
theorem sort1 (L : SlLaysF.n6 P ρ) (h1 : ∀ x, (enc x).oneCell' = true) (cf : α → α → Int) (hO : SWO (ltOf cf)) {g : Nat} (eg : cA P g) (cb : Array Value) (hrow : Held w [Row a n c e 1 (xs.map enc)]) (hm : n ≤ 4000000000)
    (hcmp : ∀ W, Frm (dN a) w W → ∀ x y : α, Ret P g (#[enc x, enc y] ++ cb) W fun v w' => v = .int .i64 (cf x y) ∧ Ext W w') :
    Ret P (ρ.f 6) #[.slice a n c, .func (.func g) #[] cb] w fun _ w' => ∃ ys : List α, ys.Perm xs ∧ ys.Pairwise (fun x y => 0 ≤ cf y x) ∧ Turn w [Row a n c e 1 (xs.map enc)] w' [Row a n c e 1 (ys.map enc)] := by
  have hr : RowV w a n c e 1 (xs.map enc) := hrow.1.1 _ List.mem_cons_self
  obtain ⟨q1, q2, q3, q4⟩ := id hr
  have hl : xs.length = n := by simpa using q1
  rcases Nat.eq_zero_or_pos n with hn | hn
  · subst hn
    have hx : xs = [] := List.eq_nil_of_length_eq_zero hl
    subst hx
    refine Ret.of_calls ((AnyF.slices_SortFunc_none (P := P) (ρ := ρ) { L with } a c _ w).mono fun e' w' ⟨h1, h2⟩ => ⟨_, h1, [], List.Perm.refl _, List.Pairwise.nil, ?_⟩)
    subst h2
    exact Turn.refl hrow
  rcases q4 with ⟨rfl, hc⟩ | ⟨g0, o, cur, rfl, hg, hsz, ht⟩
  · omega
  simp only [Nat.mul_one] at hsz ht
  have hg0 : g0 < w.heap.size := (Array.getElem?_eq_some_iff.1 hg).1
  have hH : Holds enc w g0 o xs.toArray := by
    intro j hj
    have hj' : j < xs.length := by simpa using hj
    refine ⟨?_, ?_⟩
    · rw [getElem!_toArray xs j hj']
      exact hr.cells rfl (by rw [List.getElem?_map, List.getElem?_eq_getElem hj']; rfl)
    · simp [World.frozen?, hg]
  have hC : CmpLays1 P g cb enc cf g0 o xs.toArray.size w := by
    intro m os dk hdk x y
    have hW : Frm (dN (some ⟨g0, o, none⟩)) w (sortWorld enc w g0 o m dk os) := by
      have hf := jS (enc := enc) (w := w) (g := g0) (o := o) (m := m) (os := os) (dk := dk)
      exact ⟨hf.os, hf.tape, hf.output, hf.size, fun k hk hne => hf.old k hk (fun e => hne (by subst e; rfl)), hf.drawn⟩
    refine (hcmp _ hW x y).calls.mono fun e' w' ⟨v, he, hv, hE⟩ => ⟨by rw [he, hv], hE.grow⟩
  have hcon := Any.slices_SortFunc L enc h1 cf hO g cb g0 o c xs.toArray w eg hC hH hg0 (by simp; omega)
  have hsize : xs.toArray.size = n := by simpa using hl
  rw [hsize] at hcon
  refine Ret.of_calls (hcon.mono fun e' w' ⟨h1, d', m, os, hp, hso, hw⟩ => ⟨_, h1, d'.toList, ?_, ?_, ?_⟩)
  · obtain ⟨k1, _, k3⟩ := hp
    have e1 : (d'.extract 0 n).toList = d'.toList := by
      rw [show n = d'.size by rw [k1]; exact hsize.symm]; simp
    have e2 : (xs.toArray.extract 0 n).toList = xs := by rw [← hsize]; simp
    rw [e1, e2] at k3; exact k3
  · have k1 := hp.1
    rw [List.pairwise_iff_getElem]
    intro i j hi hj hij
    have := hso i j (Nat.zero_le _) hij (by simp at hj; rw [k1] at hj; simpa [hl] using hj)
    simp only [ltOf, decide_eq_false_iff_not, Int.not_lt] at this
    rw [getElem!_pos _ _ (by simpa using hj), getElem!_pos _ _ (by simpa using hi)] at this
    simpa using this
  · have hds : d'.size = n := hp.1.trans hsize
    have hf := jS (enc := enc) (w := w) (g := g0) (o := o) (m := m) (os := os) (dk := d')
    rw [← hw] at hf
    have hb : w'.heap[g0]? = some (.cells (putCells enc o d' cur) e (0, 0)) := by
      rw [hw]
      simp only [sortWorld, Go.Sort.grow, putRow, mapBlock, Go.Sort.ahead]
      rw [Array.getElem?_append_left (by simpa using hg0), Array.getElem?_modify, if_pos rfl, hg]
      rfl
    have hrow' : RowV w' (some ⟨g0, o, none⟩) n c e 1 (d'.toList.map enc) := by
      refine ⟨by simp [hds], q2, q3, .inr ⟨g0, o, _, rfl, hb, by simp [putCells]; omega, ?_⟩⟩
      apply List.ext_getElem?
      intro j
      rw [Nat.mul_one, List.getElem?_take]
      by_cases hj : j < n
      · have hsz2 : o + j < cur.size := by omega
        rw [if_pos hj, List.getElem?_drop, List.getElem?_map]
        have e1 : (putCells enc o d' cur).toList[o + j]? = some (enc d'[j]!) := by
          simp only [putCells, Array.getElem?_toList, Array.getElem?_mapIdx]
          rw [Array.getElem?_eq_getElem hsz2]
          simp only [Option.map_some]
          rw [if_pos (by omega), Nat.add_sub_cancel_left]
        rw [e1, getElem!_pos _ _ (by omega)]
        simp [show j < d'.size by omega]
      · rw [if_neg hj, List.getElem?_eq_none (by simp; omega)]
    refine ⟨⟨hf.os, hf.tape, hf.output, hf.size, fun k hk hne => hf.old k hk (fun e' => hne ⟨_, List.mem_cons_self, by subst e'; rfl⟩), hf.drawn⟩, ⟨fun c' hc' => ?_, List.pairwise_singleton _ _⟩, fun k ⟨c', hc', hk⟩ => ?_⟩
    · simp only [List.mem_singleton] at hc'; subst hc'; exact hrow'
    · simp only [List.mem_singleton] at hc'; subst hc'
      have hk' : g0 = k := by simpa [Row, dN] using hk
      subst hk'
      exact ⟨Nat.lt_of_lt_of_le hg0 hf.size, .inl ⟨_, List.mem_cons_self, rfl⟩⟩
end
end Go.Eng
end
section
namespace Go.Proofs
def Tryz.sortIds_ren : Go.Shelf.Ren := ⟨fun | 6 => 60 | 15 => 136 | 14 => 135 | 28 => 197 | 29 => 198 | 20 => 189 | 21 => 190 | 22 => 191 | 23 => 192 | 24 => 193 | 25 => 194 | 26 => 195 | 27 => 196 | 46 => 233 | 47 => 234 | 48 => 235 | 49 => 236 | 50 => 237 | 57 => 248 | n => n, fun | 22 => 95 | 24 => 43 | 25 => 104 | 3 => 3 | 39 => 106 | 0 => 0 | 53 => 232 | 55 => 28 | 4 => 4 | 46 => 226 | 45 => 225 | 50 => 89 | 5 => 5 | 9 => 9 | 66 => 256 | 70 => 260 | 76 => 271 | 77 => 131 | n => n, fun | n => n⟩
theorem Tryz.sortIds : Go.Proofs.SlLaysF.n6 Tryz.prog Tryz.sortIds_ren := ⟨
by kernel_rfl,
⟨Tryz.f60.name, by decide, Tryz.func60.trans (congrArg some (by kernel_rfl))⟩,
⟨Tryz.f135.name, by decide, Tryz.func135.trans (congrArg some (by kernel_rfl))⟩,
Tryz.func136.trans (congrArg some (by kernel_rfl)),
⟨Tryz.f189.name, by decide, Tryz.func189.trans (congrArg some (by kernel_rfl))⟩,
⟨Tryz.f190.name, by decide, Tryz.func190.trans (congrArg some (by kernel_rfl))⟩,
⟨Tryz.f191.name, by decide, Tryz.func191.trans (congrArg some (by kernel_rfl))⟩,
⟨Tryz.f192.name, by decide, Tryz.func192.trans (congrArg some (by kernel_rfl))⟩,
⟨Tryz.f193.name, by decide, Tryz.func193.trans (congrArg some (by kernel_rfl))⟩,
⟨Tryz.f194.name, by decide, Tryz.func194.trans (congrArg some (by kernel_rfl))⟩,
⟨Tryz.f195.name, by decide, Tryz.func195.trans (congrArg some (by kernel_rfl))⟩,
⟨Tryz.f196.name, by decide, Tryz.func196.trans (congrArg some (by kernel_rfl))⟩,
Tryz.func197.trans (congrArg some (by kernel_rfl)),
Tryz.func198.trans (congrArg some (by kernel_rfl)),
⟨Tryz.f233.name, by decide, Tryz.func233.trans (congrArg some (by kernel_rfl))⟩,
Tryz.func234.trans (congrArg some (by kernel_rfl)),
Tryz.func235.trans (congrArg some (by kernel_rfl)),
⟨Tryz.f236.name, by decide, Tryz.func236.trans (congrArg some (by kernel_rfl))⟩,
⟨Tryz.f237.name, by decide, Tryz.func237.trans (congrArg some (by kernel_rfl))⟩,
⟨Tryz.f248.name, by decide, Tryz.func248.trans (congrArg some (by kernel_rfl))⟩,
Tryz.underlying0,
Tryz.isAgg0,
Tryz.sizeOf0,
Tryz.zeroValue0,
Tryz.underlying3,
Tryz.isAgg3,
Tryz.sizeOf3,
Tryz.zeroValue3,
Tryz.underlying4,
Tryz.isAgg4,
Tryz.sizeOf4,
Tryz.zeroValue4,
Tryz.underlying5,
Tryz.isAgg5,
Tryz.sizeOf5,
Tryz.zeroValue5,
Tryz.underlying9,
Tryz.isAgg9,
Tryz.sizeOf9,
Tryz.zeroValue9,
Tryz.underlying95,
Tryz.isAgg95,
Tryz.sizeOf95,
Tryz.zeroValue95,
Tryz.isAgg43,
Tryz.sizeOf43,
Tryz.underlying104,
Tryz.isAgg104,
Tryz.sizeOf104,
Tryz.zeroValue104,
Tryz.underlying106,
Tryz.isAgg106,
Tryz.sizeOf106,
Tryz.zeroValue106,
Tryz.underlying225,
Tryz.isAgg225,
Tryz.sizeOf225,
Tryz.zeroValue225,
Tryz.underlying226,
Tryz.isAgg226,
Tryz.sizeOf226,
Tryz.zeroValue226,
Tryz.underlying89,
Tryz.isAgg89,
Tryz.sizeOf89,
Tryz.zeroValue89,
Tryz.underlying232,
Tryz.isAgg232,
Tryz.sizeOf232,
Tryz.zeroValue232,
Tryz.underlying28,
Tryz.isAgg28,
Tryz.sizeOf28,
Tryz.zeroValue28,
Tryz.underlying256,
Tryz.isAgg256,
Tryz.sizeOf256,
Tryz.zeroValue256,
Tryz.underlying260,
Tryz.isAgg260,
Tryz.sizeOf260,
Tryz.zeroValue260,
Tryz.underlying271,
Tryz.isAgg271,
Tryz.sizeOf271,
Tryz.zeroValue271,
Tryz.underlying131,
Tryz.isAgg131,
Tryz.sizeOf131,
Tryz.zeroValue131⟩
end Go.Proofs
end
section
namespace Go.Eng
open Go.Proofs
set_option linter.unusedSimpArgs false
set_option linter.unusedVariables false
abbrev PU := RS × List Int
abbrev oS (p : PU) : HP := RowU p.1.1 p.1.2.1 p.1.2.2 p.2
def OwnU (ps : List PU) : HP := Star (ps.map oS)
abbrev cS (p : PU) : Value := .slice p.1.1 p.1.2.1 p.1.2.2
abbrev RowS (a : Option Addr) (n c : Nat) (ps : List PU) : HP := Row a n c 43 1 (ps.map cS)
abbrev cRS (x : RS) : List Value := [.slice x.1 x.2.1 x.2.2]
abbrev okPU (p : PU) : Prop := p.1.2.1 = p.2.length ∧ ∀ x ∈ p.2, okId x
theorem encRS (ps : List PU) : encL cRS (ps.map Prod.fst) = ps.map cS := by
  induction ps with
  | nil => rfl
  | cons p ps ih => rw [List.map_cons, List.map_cons, fU, ih]; rfl
theorem mE : RawTy (tSl (tInt .u64)) tS (tD (tInt .u64)) := inferInstance
section
variable {w0 w : World} {F : Nat → Prop} {L : List HP}
theorem St.nilU (h : St w0 F w L) : St w0 F w (OwnU [] :: L) := St.star (A := []) h
theorem St.pushU {ps : List PU} {p : PU} (h : St w0 F w (oS p :: OwnU ps :: L)) : St w0 F w (OwnU (ps ++ [p]) :: L) := by
  have h1 : St w0 F w (OwnU ps :: oS p :: L) := h.perm (.swap _ _ _)
  have h2 : St w0 F w (ps.map oS ++ (oS p :: L)) := St.unstar h1
  have h3 : St w0 F w ((ps ++ [p]).map oS ++ L) := by rw [List.map_append, List.append_assoc]; exact h2
  exact St.star h3
theorem St.permU {ps qs : List PU} (hp : ps.Perm qs) (h : St w0 F w (OwnU ps :: L)) : St w0 F w (OwnU qs :: L) := by
  have h2 : St w0 F w (ps.map oS ++ L) := St.unstar h
  exact St.star (h2.perm ((hp.map oS).append_right L))
theorem slPU {ps : List PU} {p : PU} (h : (OwnU ps).holds w) (hp : p ∈ ps) (hok : okPU p) : Sl dId (OwnU ps).foot w p.1.1 p.1.2.1 p.1.2.2 p.2 :=
  (RowV.slF (d := dId) (show RowV w p.1.1 p.1.2.1 p.1.2.2 29 1 (encL cId p.2) from h.1 _ (List.mem_map_of_mem (f := oS) hp)) (by decide) hok.2).weak (fun k hk => ⟨oS p, List.mem_map_of_mem hp, hk⟩)
theorem slS {a : Option Addr} {n c : Nat} {ps : List PU} (hs : St w0 F w L) (h1 : RowS a n c ps ∈ L) (h2 : OwnU ps ∈ L) (hok : ∀ p ∈ ps, okPU p) : Sl (tSl (tInt .u64)) All w a n c (ps.map Prod.snd) := by
  have hr : RowV w a n c 43 1 (encL cRS (ps.map Prod.fst)) := by rw [encRS]; exact hs.all _ h1
  refine Sl.unraw (D := mE) ((RowV.slF (d := tS) hr (by decide) (fun _ _ => trivial)).weak (fun _ _ => trivial)) ⟨by simp, fun i r x hr hx => ?_⟩
  rw [List.getElem?_map] at hr hx
  cases hq : ps[i]? with
  | none => rw [hq] at hr; cases hr
  | some p =>
    rw [hq] at hr hx
    cases hr; cases hx
    have hm := List.mem_of_getElem? hq
    exact (slPU (hs.all _ h2) hm (hok p hm)).weak (fun _ _ => trivial)
end
abbrev VU (R : Nat → Prop) (w : World) : Type := {p : PU // Sl dId R w p.1.1 p.1.2.1 p.1.2.2 p.2}
instance (R : Nat → Prop) (w : World) : Inhabited (VU R w) := ⟨⟨((none, 0, 0), []), nil_sl _ _ _⟩⟩
attribute [local irreducible] Hold J JL JD JX JXat OpR OpG Ret RetV Is Blk Row
set_option maxRecDepth 100000
set_option maxHeartbeats 2000000
theorem wO (w : World) (a : Option Addr) (n c : Nat) (ps : List PU) (R : Nat → Prop) (hh : Held w [RowS a n c ps]) (hd : ∀ p ∈ ps, Sl dId R w p.1.1 p.1.2.1 p.1.2.2 p.2) (hsep : ∀ k, R k → ¬ dN a k) (hn : n ≤ 4000000000) :
    Ret Tryz.prog 60 #[.slice a n c, .func (.func 61) #[] #[]] w fun _ w' => ∃ zs : List PU, zs.Perm ps ∧ zs.Pairwise (fun x y => 0 ≤ cmpL y.2 x.2) ∧ Turn w [RowS a n c ps] w' [RowS a n c zs] := by
  obtain ⟨xs, hxs⟩ : ∃ xs : List (VU R w), xs = ps.pmap (fun p h => ⟨p, h⟩) hd := ⟨_, rfl⟩
  have e1 : xs.map Subtype.val = ps := by rw [hxs, List.map_pmap]; simp
  have e2 : xs.map (fun p : VU R w => cS p.1) = ps.map cS := by rw [← e1, List.map_map]; rfl
  have hr' : Held w [Row a n c 43 1 (xs.map (fun p : VU R w => cS p.1))] := by rw [e2]; exact hh
  have h := sort1 (P := Tryz.prog) (ρ := Tryz.sortIds_ren) (enc := fun p : VU R w => cS p.1) Tryz.sortIds (fun _ => rfl) (fun x y => cmpL x.1.2 y.1.2) (uM _) (g := 61) en61 #[] hr' hn (fun W hW x y => by
    have h1 := x.2.loc (w' := W) (fun k hk hlt => hW.old k hlt (hsep k hk))
    have h2 := y.2.loc (w' := W) (fun k hk hlt => hW.old k hlt (hsep k hk))
    exact oY W _ _ _ _ _ _ _ _ (h1.weak (fun _ _ => trivial)) (h2.weak (fun _ _ => trivial)))
  refine h.mono fun v w' ⟨ys, hp, hs, ht⟩ => ⟨ys.map Subtype.val, ?_, ?_, ?_⟩
  · have := hp.map Subtype.val; rw [e1] at this; exact this
  · rw [List.pairwise_map]; exact hs
  · rw [e2] at ht
    have e3 : (ys.map Subtype.val).map cS = ys.map (fun p : VU R w => cS p.1) := by rw [List.map_map]; rfl
    show Turn w [Row a n c 43 1 (ps.map cS)] w' [Row a n c 43 1 ((ys.map Subtype.val).map cS)]
    rw [e3]; exact ht
theorem yF (w : World) (a1 a2 : Option Addr) (n1 c1 n2 c2 : Nat) (xs ys : List (List Int)) (h1 : Sl (tSl (tInt .u64)) All w a1 n1 c1 xs) (h2 : Sl (tSl (tInt .u64)) All w a2 n2 c2 ys) (hn : n1 ≤ 1048576) :
    Ret Tryz.prog 63 #[.slice a1 n1 c1, .slice a2 n2 c2, .func (.func 43) #[] #[]] w fun v w' => v = .bool (decide (xs = ys)) ∧ Ext w w' := by
  refine cG (l := [_, _, _]) Tryz.func63 rfl Tryz.ntmps63 (by simp) ?_
  have hs := St.init w
  obtain ⟨rs, hr, hm⟩ := Sl.raw (D := mE) h1
  obtain ⟨qs, hq, hmq⟩ := Sl.raw (D := mE) h2
  have hl := hr.len
  have hl2 := hq.len
  have hle := h1.len
  have hle2 := h2.len
  by_cases hnn : n1 = n2
  · subst hnn
    repeat' (first | (apply aR) | ((apply aI); (first | (apply aQ; exact aH rfl aA) | (apply aF; exact aB rfl aA) | (apply aK; exact aM rfl rfl rfl aA) | (apply bL; exact bY rfl aA)); first | (exact rfl; exact rfl) | exact rfl) | (apply bB) | (apply aG) | (apply bC) | (apply bJ) | (apply aS; refine bK rfl ob ?_))
    refine dG (α := Nat) [(1, _), (2, _), (15, _), (16, _)] (fun k => [(17, .int .i64 k)]) (fun k w' => St w NoF w' [] ∧ k ≤ n1 ∧ xs.take k = ys.take k) (fun k => n1 - k) 0 ⟨hs, by omega, rfl⟩ zss ?_
    rintro k w' ⟨hs1, hk, hG⟩ ih
    by_cases hlt : k < n1
    · obtain ⟨p1, o1', rfl⟩ := hr.sl.addr (by omega)
      obtain ⟨p2, o2', rfl⟩ := hq.sl.addr (by omega)
      have hs : St w NoF w' [] := hs1
      have hx : xs[k]? = some xs[k] := List.getElem?_eq_getElem (by omega)
      have hy : ys[k]? = some ys[k] := List.getElem?_eq_getElem (by omega)
      obtain ⟨x, hxd⟩ : ∃ x, x = xs[k] := ⟨_, rfl⟩
      obtain ⟨y, hyd⟩ : ∃ y, y = ys[k] := ⟨_, rfl⟩
      rw [← hxd] at hx
      rw [← hyd] at hy
      obtain ⟨⟨r1, r2, r3⟩, hrx, hrel⟩ := hm.get hx
      obtain ⟨⟨q1, q2, q3⟩, hqx, hqel⟩ := hmq.get hy
      have hrel : Sl dId All w r1 r2 r3 x := hrel
      have hqel : Sl dId All w q1 q2 q3 y := hqel
      obtain ⟨d, hd⟩ : ∃ d, decide (x = y) = d := ⟨_, rfl⟩
      by_cases hxy : x = y
      · have hd2 : d = true := by rw [← hd]; exact decide_eq_true hxy
        subst hd2
        have hT := kC hx (by rw [hxy]; exact hy) hG
        repeat' (first | ((apply aL (t := 29); refine JL_o (cH rfl rfl (Ret.value (cap := #[]) en43 (eJ _ r1 q1 r2 r3 q2 q3 x y (hrel.st hs) (hqel.st hs)))) rfl rfl ?_; rintro _ _ ⟨rfl, hE⟩; rw [hd]; have hs := hs.ext hE; (try simp only [zcc] at hs))) | (apply aR) | ((apply aI); (first | (apply aV; first | exact aU hs rfl rfl aA | exact bU (i := k) (j := 0) (hr.st hs) hrx rfl rfl rfl aA | exact bU (i := k) (j := 0) (hq.st hs) hqx rfl rfl rfl aA) | (apply aQ; exact aH rfl aA) | (apply aF; exact aB rfl aA) | (apply cJ; exact bR rfl rfl (by omega) (by first | (simp only [Int.reduceAdd]; exact rfl) | exact rfl) aA) | (apply aK; exact aM rfl rfl rfl aA) | (apply cB; exact cE rfl aA) | (apply aO; exact aN rfl rfl (by omega) (by omega) aA)); first | (exact rfl; exact rfl) | exact rfl) | (apply bB) | (apply aG) | (apply bC) | (apply bN) | (apply bJ) | (apply aS; first | refine bF rfl ob ?_ | refine bV rfl gb ?_))
        refine ih (k + 1) _ _ ⟨hs.sel [] (by decide), by omega, hT⟩ (by omega) zss
      · have hd2 : d = false := by rw [← hd]; exact decide_eq_false hxy
        subst hd2
        rw [getD_neG hx hy hxy]
        repeat' (first | ((apply aL (t := 29); refine JL_o (cH rfl rfl (Ret.value (cap := #[]) en43 (eJ _ r1 q1 r2 r3 q2 q3 x y (hrel.st hs) (hqel.st hs)))) rfl rfl ?_; rintro _ _ ⟨rfl, hE⟩; rw [hd]; have hs := hs.ext hE; (try simp only [zcc] at hs))) | (apply aR) | ((apply aI); (first | (apply aV; first | exact aU hs rfl rfl aA | exact bU (i := k) (j := 0) (hr.st hs) hrx rfl rfl rfl aA | exact bU (i := k) (j := 0) (hq.st hs) hqx rfl rfl rfl aA) | (apply aQ; exact aH rfl aA) | (apply aF; exact aB rfl aA) | (apply aK; exact aM rfl rfl rfl aA) | (apply cB; exact cE rfl aA) | (apply aO; exact aN rfl rfl (by omega) (by omega) aA)); first | (exact rfl; exact rfl) | exact rfl) | (apply bB) | (apply aG) | (apply bC) | (apply bJ) | (apply aS; first | refine bF rfl ob ?_ | refine bZ rfl gb ?_))
        refine aY Tryz.func63 rfl (.tmp rfl .nil) ⟨rfl, hs.frm.ext⟩
    · have hs : St w NoF w' [] := hs1
      rw [List.take_of_length_le (by omega), List.take_of_length_le (by omega)] at hG
      rw [decide_eq_true hG]
      repeat' (first | (apply aR) | ((apply aI); (first | (apply aF; exact aB rfl aA) | (apply aK; exact aM rfl rfl rfl aA)); first | (exact rfl; exact rfl) | exact rfl) | (apply bB) | (apply aG) | (apply cI; refine cZ rfl ?_) | (apply aS; refine bK rfl ob ?_))
      refine aY Tryz.func63 rfl (.tmp rfl .nil) ⟨rfl, hs.frm.ext⟩
  · rw [decide_eq_false (fun e => hnn (by subst e; omega))]
    repeat' (first | (apply aR) | ((apply aI); (first | (apply aQ; exact aH rfl aA) | (apply aF; exact aB rfl aA) | (apply aK; exact aM rfl rfl rfl aA) | (apply bL; exact bY rfl aA)); first | (exact rfl; exact rfl) | exact rfl) | (apply bB) | (apply aG) | (apply aS; refine bF rfl ob ?_))
    refine aY Tryz.func63 rfl (.tmp rfl .nil) ⟨rfl, hs.frm.ext⟩
end Go.Eng
end
section
namespace Go.Eng
open Go.Proofs
set_option linter.unusedSimpArgs false
set_option linter.unusedVariables false
def inN (N : List NM) (t : List Int) : Prop := ∃ (i : Nat) (x : NM), N[i]? = some x ∧ x.1 = true ∧ x.2.1 = t
theorem wV {a : Option Addr} {n c e sz k : Nat} {xs : List Value} (h : dN a k) : (Row a n c e sz xs).foot k := h
theorem inN_find {N : List NM} {t : List Int} : inN N t ↔ fT N t ≠ 0 := by
  constructor
  · rintro ⟨i, x, h1, h2, h3⟩ e
    exact findN_none.1 e i x h1 h2 h3
  · intro h
    obtain ⟨j, x, h1, h2, h3, _⟩ := oB h
    exact ⟨j, x, h1, h2, h3⟩
theorem of_in {N : List NM} {t : List Int} (gN : GR N) (hm : fR N < 4000) (ht : dR t = true) : ofC N t = 0 ∧ (∀ u, inN (ofL N t) u ↔ inN N u ∨ u = t) ∧ fT (ofL N t) t = ofn N t ∧ (ofL N t).length ≤ N.length + 1 ∧ ofn N t ≠ 0 := by
  have hc : ofC N t = 0 := by
    unfold ofC
    rw [if_pos ht]
    split
    · rfl
    · rw [if_neg (by omega)]
  obtain ⟨g2, ⟨x, hx, hxu, hxt⟩, h1, _⟩ := of_GR gN hc
  have hf : fT (ofL N t) t = ofn N t := by
    have := uI hx hxu (fun i y hy hyu e => g2.uniq i _ y x hy hx hyu hxu e)
    rw [hxt] at this
    omega
  refine ⟨hc, fun u => ?_, hf, ?_, by omega⟩
  · obtain ⟨_, ⟨c, e1, _⟩ | ⟨c, _, e1, _⟩⟩ := qH hc
    · rw [e1]
      constructor
      · exact .inl
      · rintro (h | h)
        · exact h
        · rw [h]; exact inN_find.2 c
    · rw [e1]
      constructor
      · rintro ⟨i, y, hy, hyu, hyt⟩
        rw [gM (fB N)] at hy
        split at hy
        · cases hy; exact .inr hyt.symm
        · exact .inl ⟨i, y, hy, hyu, hyt⟩
      · rintro (⟨i, y, hy, hyu, hyt⟩ | h)
        · exact ⟨i, y, kV hy hyu, hyu, hyt⟩
        · exact ⟨eY N, newN t, by rw [gM (fB N), if_pos rfl], rfl, h.symm⟩
  · obtain ⟨_, ⟨c, e1, _⟩ | ⟨c, _, e1, _⟩⟩ := qH hc
    · rw [e1]; omega
    · rw [e1, qE (fB N)]
      have := fB N
      split <;> omega
def lN (N : List NM) : List (List Int) := (useE N N.length).map (fun e => e.2.1)
theorem vK {N : List NM} {t : List Int} : t ∈ lN N ↔ inN N t := by
  unfold lN useE
  rw [List.map_map, List.mem_map]
  constructor
  · rintro ⟨j, hj, rfl⟩
    obtain ⟨h1, h2⟩ := mem_uN.1 hj
    have hx : N[j]? = some (N[j]'h1) := List.getElem?_eq_getElem h1
    rw [dF hx] at h2
    exact ⟨j, _, hx, h2, by show _ = (N.getD j n0).2.1; rw [dF hx]⟩
  · rintro ⟨j, x, hx, h1, h2⟩
    exact ⟨j, mem_uN.2 ⟨(List.getElem?_eq_some_iff.1 hx).1, by rw [dF hx]; exact h1⟩, by show (N.getD j n0).2.1 = t; rw [dF hx]; exact h2⟩
theorem rW {N : List NM} (gN : GR N) : (lN N).Pairwise (· ≠ ·) := by
  unfold lN
  exact List.pairwise_map.2 (jP gN.uniq)
theorem wD {N : List NM} {k : Nat} (hk : k < (lB N).length) : ∃ (j : Nat) (x : NM), N[j]? = some x ∧ x.1 = true ∧ (lB N)[k]? = some ((j : Int) + 1) ∧ (lN N)[k]? = some x.2.1 := by
  unfold lB at hk ⊢
  rw [List.length_map] at hk
  obtain ⟨j, hj⟩ : ∃ j, (uN N N.length)[k]? = some j := ⟨_, List.getElem?_eq_getElem hk⟩
  obtain ⟨h1, h2⟩ := mem_uN.1 (List.mem_of_getElem? hj)
  have hx : N[j]? = some (N[j]'h1) := List.getElem?_eq_getElem h1
  rw [dF hx] at h2
  refine ⟨j, _, hx, h2, by rw [List.getElem?_map, hj]; rfl, ?_⟩
  unfold lN useE
  rw [List.map_map, List.getElem?_map, hj]
  show some (N.getD j n0).2.1 = _
  rw [dF hx]
theorem uV (N : List NM) : (lN N).length = (lB N).length := by
  unfold lN useE lB
  rw [List.length_map, List.length_map, List.length_map]
abbrev wN (Z : List (List Int)) : Prop := Z.Pairwise (fun x y => 0 ≤ cmpL y x)
theorem vC {Y Z : List (List Int)} (h1 : wN Y) (h2 : wN Z) (d1 : Y.Pairwise (· ≠ ·)) (d2 : Z.Pairwise (· ≠ ·)) (hm : ∀ t, t ∈ Y ↔ t ∈ Z) : Y = Z := by
  have hp := (jV d1 d2 hm).map (fun t => ((1, t, 0) : Ent))
  have h := kD hp (List.pairwise_map.2 d1) (List.pairwise_map.2 h1) (List.pairwise_map.2 h2)
  have h3 := congrArg (List.map (fun e : Ent => e.2.1)) h
  rw [List.map_map, List.map_map] at h3
  have e : ((fun e : Ent => e.2.1) ∘ fun t => ((1, t, 0) : Ent)) = id := rfl
  rw [e, List.map_id, List.map_id] at h3
  exact h3
theorem typC_ok {N : List NM} {E : List Ent} {x : Int} (hc : eG N E = true) (hi : isM N x = true) : typC N E x = 0 := by unfold typC; rw [hc, hi]; rfl
theorem typL_ok {N : List NM} {E : List Ent} {x : Int} {T : List Int} (hc : typC N E x = 0) (hn : (dS N x).2.1 = T) : typL N E x = T := by unfold typL; rw [if_pos hc, hn]
theorem usedL_ok {N : List NM} (h : N.length ≤ 1000000) : ∀ v ∈ lB N, inK .i64 v := fun v hv => by
  unfold lB uN at hv
  obtain ⟨j, hj, rfl⟩ := List.mem_map.1 hv
  have := List.mem_range.1 (List.mem_filter.1 hj).1
  unfold inK; simp only [IntKind.min, IntKind.max, IntKind.bits, IntKind.signed]; omega
theorem usedL_le (N : List NM) : (lB N).length ≤ N.length := by
  unfold lB
  rw [List.length_map, qK]
  unfold fR
  exact List.length_filter_le _ _
attribute [local irreducible] Hold J JL JD JX JXat OpR OpG Ret RetV Is Blk Row
set_option maxRecDepth 100000
set_option maxHeartbeats 2000000
theorem rV (w : World) (a : Option Addr) (n c : Nat) (tss : List (List Int)) (h : Sl (tSl (tInt .u64)) All w a n c tss) (hn : n ≤ 6) :
    Ret Tryz.prog 58 #[.slice a n c] w fun v w' => ∃ (zs : List PU) (a' : Option Addr) (c' : Nat), v = .tuple #[.slice a' zs.length c', .bool true] ∧ ((∀ p ∈ zs, okPU p) ∧ zs.length ≤ 10 ∧ wN (zs.map Prod.snd) ∧ (zs.map Prod.snd).Pairwise (· ≠ ·) ∧ ∀ t, t ∈ zs.map Prod.snd ↔ t = [] ∨ (t ∈ tss ∧ dR t = true)) ∧ Fresh w w' [RowS a' zs.length c' zs, OwnU zs] := by
  refine cG (l := [_]) Tryz.func58 rfl Tryz.ntmps58 (by simp) ?_
  have hs := St.init w
  have hl := h.len
  obtain ⟨rr, hr, hm⟩ := Sl.raw (D := mE) h
  have hlr := hr.len
  repeat' (first | ((apply aW 54; refine JL_o (by exact aC en54 rfl (gnew_r _)) rfl rfl ?_; rintro _ _ ⟨t1, u1, t2, m2, u2, rfl, qs0, es0, rs0, ⟨hq0, ho0⟩, ⟨he0, hA0⟩, ⟨hl0, hm0, hx0⟩, hf⟩; have hs := hs.fresh hf; (try simp only [zcc] at hs))) | (apply aR) | ((apply aI); (first | (apply aQ; exact aH rfl aA) | (apply aF; exact aB rfl aA) | (apply bL; exact bY rfl aA)); first | (exact rfl; exact rfl) | exact rfl) | (apply bB) | (apply aG) | (apply bC) | (apply aL (t := 4); refine JL_o (by apply bE; exact aX hs) rfl rfl ?_; rintro _ _ ⟨b4, rfl, hb4, hs, hE⟩) | (apply bH; refine JL_u (by apply bA; exact aZ hs rfl rfl rfl) rfl ?_; rintro _ _ ⟨hs, hF⟩))
  refine dG (α := Nat × List QN × List REnt × List NM × List Ent × (Option Addr × Nat × Nat) × (Option Addr × Nat × Nat)) [(4, _), (18, _), (19, _)] (fun g => [(20, .int .i64 g.1)]) (fun g w' => St w NoF w' [Blk b4 (.cells #[.slice g.2.2.2.2.2.1.1 g.2.2.2.2.2.1.2.1 g.2.2.2.2.2.1.2.2, .slice g.2.2.2.2.2.2.1 g.2.2.2.2.2.2.2.1 g.2.2.2.2.2.2.2.2] 57 (0, 0)), TabN g.2.2.2.2.2.1.1 g.2.2.2.2.2.1.2.1 g.2.2.2.2.2.1.2.2 (g.2.1.map rawN), OwnN g.2.1, dH g.2.2.2.2.2.2.1 g.2.2.2.2.2.2.2.1 g.2.2.2.2.2.2.2.2 g.2.2.1, Own g.2.2.1 g.2.2.2.2.1] ∧ (g.2.1.map iG = g.2.2.2.1 ∧ ∀ q ∈ g.2.1, okN q) ∧ (dD g.2.2.2.2.1 = true ∧ allM g.2.2.2.2.1 = fC g.2.2.2.1) ∧ (g.2.2.2.1.length = g.2.2.2.2.2.1.2.1 ∧ g.2.2.2.2.1.length = g.2.2.2.2.2.2.2.1 ∧ g.2.2.2.2.2.2.2.1 ≤ 1048576) ∧ GR g.2.2.2.1 ∧ (g.2.2.2.1.length ≤ g.1 + 1 ∧ bndN 12 g.2.2.2.1) ∧ (∀ t, inN g.2.2.2.1 t ↔ t = [] ∨ (t ∈ tss.take g.1 ∧ dR t = true)) ∧ g.1 ≤ n) (fun g => n - g.1) (0, qs0, rs0, N00, es0, (t1, 1, u1), (t2, m2, u2)) ⟨hs, ⟨hq0, ho0⟩, ⟨he0, hA0⟩, ⟨hl0, hm0, hx0⟩, gr_new, ⟨by dsimp only; omega, fun x hx => by rw [List.mem_singleton.1 hx]; exact ⟨Nat.zero_le _, Nat.zero_le _, Nat.zero_le _⟩⟩, fun t => ⟨fun ⟨i, x, hx, _, ht⟩ => ?_, fun ht => ?_⟩, Nat.zero_le _⟩ zss ?_
  · refine .inl ?_
    cases i with
    | zero => cases hx; exact ht.symm
    | succ i => cases hx
  · rcases ht with ht | ⟨ht, _⟩
    · exact ⟨0, newN [], rfl, rfl, ht.symm⟩
    · simp at ht
  rintro ⟨k, qs, rs, N, es, ⟨ag, mg, cg⟩, ⟨ag2, me, cg2⟩⟩ w2 ⟨hs1, ⟨hqm, hqo⟩, ⟨hce, hA⟩, ⟨hlN, hle, hx⟩, gN, ⟨hNk, hb⟩, hin, hk⟩ ih
  dsimp only at hs1 hqm hqo hce hA hlN hle hx gN hNk hb hin hk ih ⊢
  have hsz : szN N := hb.sz (by omega)
  have hmu : fR N < 4000 := by
    have h1 : fR N ≤ N.length := by unfold fR; exact List.length_filter_le _ _
    omega
  have hcG : eG N es = true := check_iff.2 ⟨gN, hce, hA⟩
  by_cases hlt : k < n
  · obtain ⟨p, o, rfl⟩ := hr.sl.addr (by omega)
    have hs : St w NoF w2 [_, _, _, _, _] := hs1
    have hxt : tss[k]? = some (tss[k]'(by omega)) := List.getElem?_eq_getElem (by omega)
    obtain ⟨t, htd⟩ : ∃ t, t = tss[k]'(by omega) := ⟨_, rfl⟩
    rw [← htd] at hxt
    obtain ⟨⟨r1, r2, r3⟩, hrx, hrel⟩ := hm.get hxt
    have hrel : Sl dId All w r1 r2 r3 t := hrel
    have htk : tss.take (k + 1) = tss.take k ++ [t] := by rw [List.take_add_one, hxt]; rfl
    cases htb : dR t with
    | false =>
      have hCC : ofC N t = 130 := by unfold ofC; rw [if_neg (by rw [htb]; decide)]
      have hEE : ofE N es t = 130 := by unfold ofE; rw [hcG]; exact hCC
      have hE0 : ofE N es t ≠ 0 := by rw [hEE]; decide
      repeat' (first | ((apply aW 33; refine JL_o (by exact aC en33 rfl ((gOf_r _ ag ag2 r1 mg cg me cg2 r2 r3 N es t (slG (qs := qs) hs hqm hqo zmm zmm) (lD (rs := rs) hs zmm zmm) (hrel.st hs) (by omega) hx hsz).mono (fun _ _ r => by have r2 := r.bad hE0; rw [hEE] at r2; exact r2))) rfl rfl ?_; rintro _ _ ⟨rfl, hE⟩; have hs := hs.ext hE; (try simp only [zcc] at hs))) | ((apply aW 59; refine JL_o (by exact aC en59 rfl ((dL _ r1 r2 r3 t (hrel.st hs)).mono (fun _ _ r => by rw [if_neg (by rw [htb]; decide)] at r; exact r))) rfl rfl ?_; rintro _ _ ⟨rfl, hE⟩; have hs := hs.ext hE; (try simp only [zcc] at hs))) | (apply aR) | ((apply aI); (first | (apply aV; first | exact aU hs rfl rfl aA | exact aJ hs rfl aA | exact bU (i := k) (j := 0) (hr.st hs) hrx rfl rfl rfl aA) | (apply aQ; exact aH rfl aA) | (apply aF; exact aB rfl aA) | (apply cJ; exact bR rfl rfl (by omega) (by first | (simp only [Int.reduceAdd]; exact rfl) | exact rfl) aA) | (apply aK; exact aM rfl rfl rfl aA) | (apply bS; exact bM rfl rfl aA) | (apply aO; exact aN rfl rfl (by omega) (by omega) aA)); first | (exact rfl; exact rfl) | exact rfl) | (apply bB) | (apply aG) | (apply bC) | (apply cI; refine cZ rfl ?_) | (apply bJ) | (apply aL (t := 7); refine JL_o (by apply bE; exact aX hs) rfl rfl ?_; rintro _ _ ⟨b7, rfl, hb7, hs, hE⟩) | (apply bH; refine JL_u (by apply bA; exact aZ hs rfl rfl rfl) rfl ?_; rintro _ _ ⟨hs, hF⟩) | (apply aS; first | refine bF rfl ob ?_ | refine bK rfl ob ?_))
      refine ih (k + 1, qs, rs, N, es, (ag, mg, cg), (ag2, me, cg2)) _ _ ⟨hs.sel [1, 2, 3, 4, 5] (by decide), ⟨hqm, hqo⟩, ⟨hce, hA⟩, ⟨hlN, hle, hx⟩, gN, ⟨by dsimp only; omega, hb⟩, fun u => ?_, hlt⟩ (by dsimp only; omega) zss
      dsimp only
      rw [hin u, htk, List.mem_append, List.mem_singleton]
      constructor
      · rintro (e | ⟨e1, e2⟩)
        · exact .inl e
        · exact .inr ⟨.inl e1, e2⟩
      · rintro (e | ⟨e1 | e1, e2⟩)
        · exact .inl e
        · exact .inr ⟨e1, e2⟩
        · rw [e1, htb] at e2; cases e2
    | true =>
      obtain ⟨hCC, hin2, hfn, hlen2, hne⟩ := of_in gN hmu htb
      have hofE : ofE N es t = 0 := by unfold ofE; rw [hcG]; exact hCC
      have g7 := (of_GR gN hCC).1
      obtain ⟨D, hD⟩ : ∃ D, D = ofL N t := ⟨_, rfl⟩
      have hbD : bndN 12 D := by rw [hD]; exact hb.of (typeB_iff.1 htb).1
      rw [← hD] at hin2 hfn hlen2 g7
      obtain ⟨no, hno⟩ : ∃ no, no = ofn N t := ⟨_, rfl⟩
      rw [← hno] at hfn hne
      have hsz7 : szN D := hbD.sz (by omega)
      have hfdec : decide (no ≠ 0) = true := decide_eq_true hne
      repeat' (first | ((apply aW 33; refine JL_o (by exact aC en33 rfl ((gOf_r _ ag ag2 r1 mg cg me cg2 r2 r3 N es t (slG (qs := qs) hs hqm hqo zmm zmm) (lD (rs := rs) hs zmm zmm) (hrel.st hs) (by omega) hx hsz).mono (fun _ _ r => by have r2 := r.ok hofE; rw [← hD, ← hno] at r2; exact r2))) rfl rfl ?_; rintro _ _ ⟨t7, k7, u7, t8, m8, u8, rfl, hk7, qs7, es7, rs7, ⟨hq7, ho7⟩, ⟨he7, hA7⟩, ⟨hl7, hm7, hx7⟩, hf⟩; have hs := hs.fresh hf; have hcD : eG D es7 = true := check_iff.2 ⟨g7, he7, hA7⟩; have hfg := mG hcD t; rw [hfn, hfdec] at hfg; (try simp only [zcc] at hs))) | ((apply aW 51; refine JL_o (by exact aC en51 rfl ((gfind_r _ t7 t8 r1 k7 u7 m8 u8 r2 r3 D es7 t (slG (qs := qs7) hs hq7 ho7 zmm zmm) (lD (rs := rs7) hs zmm zmm) hx7 hsz7 (hrel.st hs)).mono (fun _ _ r => by rw [if_pos hcD, hfg] at r; exact r))) rfl rfl ?_; rintro _ _ ⟨rfl, hE⟩; have hs := hs.ext hE; (try simp only [zcc] at hs))) | ((apply cN 46; refine cX rfl gb (by exact aC en46 rfl ((dM _ t7 t8 k7 u7 m8 u8 D es7 (slG (qs := qs7) hs hq7 ho7 zmm zmm) (lD (rs := rs7) hs zmm zmm) hx7 hsz7).mono (fun _ _ r => by rw [jY hcD] at r; exact r))) rfl rfl ?_; rintro _ _ ⟨rfl, hE⟩; have hs := hs.ext hE; (try simp only [zcc] at hs))) | (apply aR) | ((first | (apply aI) | (apply bX; exact rfl; exact gb)); (first | (apply aV; first | exact aU hs rfl rfl aA | exact aJ hs rfl aA | exact bU (i := k) (j := 0) (hr.st hs) hrx rfl rfl rfl aA) | (apply aQ; exact aH rfl aA) | (apply aF; exact aB rfl aA) | (apply cJ; exact bR rfl rfl (by omega) (by first | (simp only [Int.reduceAdd]; exact rfl) | exact rfl) aA) | (apply aK; exact aM rfl rfl rfl aA) | (apply cB; exact cE rfl aA) | (apply cF; exact bO rfl gb rfl aA) | (apply bS; exact bM rfl rfl aA) | (apply aO; exact aN rfl rfl (by omega) (by omega) aA)); first | (exact rfl; exact rfl) | exact rfl) | (apply bB) | (apply aG) | (apply bC) | (apply bN) | (apply bJ) | (apply aL (t := 7); refine JL_o (by apply bE; exact aX hs) rfl rfl ?_; rintro _ _ ⟨b7, rfl, hb7, hs, hE⟩) | (apply bH; refine JL_u (by apply bA; exact aZ hs rfl rfl rfl) rfl ?_; rintro _ _ ⟨hs, hF⟩) | (apply aS; first | refine bF rfl ob ?_ | refine bK rfl ob ?_))
      refine ih (k + 1, qs7, rs7, D, es7, (t7, k7, u7), (t8, m8, u8)) _ _ ⟨hs.sel [5, 1, 2, 3, 4] (by decide), ⟨hq7, ho7⟩, ⟨he7, hA7⟩, ⟨hl7, hm7, hx7⟩, g7, ⟨by dsimp only; omega, hbD⟩, fun u => ?_, hlt⟩ (by dsimp only; omega) zss
      dsimp only
      rw [hin2 u, hin u, htk, List.mem_append, List.mem_singleton]
      constructor
      · rintro ((e | ⟨e1, e2⟩) | e)
        · exact .inl e
        · exact .inr ⟨.inl e1, e2⟩
        · exact .inr ⟨.inr e, by rw [e]; exact htb⟩
      · rintro (e | ⟨e1 | e1, e2⟩)
        · exact .inl (.inl e)
        · exact .inl (.inr ⟨e1, e2⟩)
        · exact .inr e1
  · have hkn : k = n := by omega
    subst hkn
    have hs : St w NoF w2 [_, _, _, _, _] := hs1
    clear ih
    rw [List.take_of_length_le (by omega)] at hin
    have hUG := pT gN hce hA
    have hUo := usedL_ok (N := N) (by omega)
    have hUl := usedL_le N
    have hTl := uV N
    obtain ⟨UL, hUL⟩ : ∃ l, l = lB N := ⟨_, rfl⟩
    have hat : ∀ j, j < UL.length → _ := fun j hj => wD (N := N) (k := j) (by rw [← hUL]; exact hj)
    rw [← hUL] at hUG hUo hUl hTl
    have hokt : ∀ x ∈ N, ∀ v ∈ x.2.1, okId v := fun x hx => by
      rw [← hqm] at hx
      obtain ⟨q, hq, rfl⟩ := List.mem_map.1 hx
      exact (hqo q hq).1.2
    repeat' (first | ((apply aW 49; refine JL_o (by exact aC en49 rfl ((tJ _ ag ag2 mg cg me cg2 N es (slG (qs := qs) hs hqm hqo zmm zmm) (lD (rs := rs) hs zmm zmm) (by omega) hx hsz).mono (fun _ _ r => by rw [hUG] at r; exact r))) rfl rfl ?_; rintro _ _ ⟨t12, u12, rfl, hf⟩; have hs := hs.fresh hf; (try simp only [zcc] at hs))) | (apply aR) | ((apply aI); (first | (apply aV; first | exact aU hs rfl rfl aA | exact aJ hs rfl aA) | (apply aQ; exact aH rfl aA) | (apply aF; exact aB rfl aA) | (apply aK; exact aM rfl rfl rfl aA) | (apply bL; exact bY rfl aA)); first | (exact rfl; exact rfl) | exact rfl) | (apply bB) | (apply aG) | (apply bC) | (apply cI; refine cZ rfl ?_) | (apply aS; refine bK rfl ob ?_))
    have hs := hs.nilU.nilRow 43 1
    refine dG (α := Nat × List PU × Option Addr × Nat) [(4, _), (57, _), (58, _)] (fun g => [(12, .slice g.2.2.1 g.1 g.2.2.2), (59, .int .i64 g.1)]) (fun g w' => St w NoF w' [RowS g.2.2.1 g.1 g.2.2.2 g.2.1, OwnU g.2.1, RowI t12 UL.length u12 UL, Blk b4 (.cells #[.slice ag mg cg, .slice ag2 me cg2] 57 (0, 0)), TabN ag mg cg (qs.map rawN), OwnN qs, dH ag2 me cg2 rs, Own rs es] ∧ g.2.1.map Prod.snd = (lN N).take g.1 ∧ g.2.1.length = g.1 ∧ (∀ p ∈ g.2.1, okPU p) ∧ g.1 ≤ UL.length) (fun g => UL.length - g.1) (0, [], none, 0) ⟨hs, rfl, rfl, (fun p hp => by cases hp), Nat.zero_le _⟩ zss ?_
    rintro ⟨i, ps, a5, c5⟩ w3 ⟨hs1, hps, hpl, hpo, hi⟩ ih
    dsimp only at hs1 hps hpl hpo hi ih ⊢
    have hs : St w NoF w3 [_, _, _, _, _, _, _, _] := hs1
    by_cases hil : i < UL.length
    · obtain ⟨j, x, hxj, hxu, hUj, hTj⟩ := hat i hil
      rw [← hUL] at hUj
      obtain ⟨T, hT⟩ : ∃ T, T = x.2.1 := ⟨_, rfl⟩
      rw [← hT] at hTj
      have hjl := (List.getElem?_eq_some_iff.1 hxj).1
      have htc : typC N es ((j : Int) + 1) = 0 := typC_ok hcG (isM_true.2 ⟨j, x, rfl, hxj, hxu⟩)
      have htl : typL N es ((j : Int) + 1) = T := typL_ok htc (by rw [dK hxj, hT])
      have hTok : ∀ v ∈ T, okId v := by rw [hT]; exact hokt x (List.mem_of_getElem? hxj)
      have hji : inK .i64 ((j : Int) + 1) := by unfold inK; simp only [IntKind.min, IntKind.max, IntKind.bits, IntKind.signed]; omega
      obtain ⟨p12, o12, rfl⟩ := (hs.row t12 UL.length u12).some (by omega)
      have hs : St w NoF w3 [_, _, _, _, _, _, _, _] := hs1
      repeat' (first | ((apply aW 44; refine JL_o (by exact aC en44 rfl ((gtype_r _ ag ag2 mg cg me cg2 N es ((j : Int) + 1) (slG (qs := qs) hs hqm hqo zmm zmm) (lD (rs := rs) hs zmm zmm) hx hsz hji).mono (fun _ _ r => by rw [htl, htc] at r; exact r))) rfl rfl ?_; rintro _ _ ⟨a8, rfl, hf⟩; have hs := hs.fresh hf; (try simp only [zcc] at hs))) | ((apply aL (t := 74); refine JL_o (by apply dO; exact fJ (xs := ps.map cS) (news := [.slice a8 T.length T.length]) hs rfl rfl (qB (hs.blk (b := b73)) rfl) fF rfl (by omega) (by unfold maxLen; omega)) rfl rfl ?_; rintro _ _ ⟨a6, c6, rfl, hs, hF, hnil⟩)) | (apply aR) | ((apply aI); (first | (apply aV; first | exact aU hs rfl rfl aA | exact aJ hs rfl aA | exact bU (i := i) (j := 0) ((RowV.sl (hs.row (some ⟨p12, o12, none⟩) UL.length u12) hUo).weak (fun _ _ => trivial)) hUj rfl rfl rfl aA) | (apply aQ; exact aH rfl aA) | (apply aF; exact aB rfl aA) | (apply cJ; exact bR rfl rfl (by omega) (by first | (simp only [Int.reduceAdd]; exact rfl) | exact rfl) aA) | (apply aK; exact aM rfl rfl rfl aA) | (apply bS; exact bM rfl rfl aA) | (apply aO; exact aN rfl rfl (by omega) (by omega) aA)); first | (exact rfl; exact rfl) | exact rfl) | (apply bB) | (apply aG) | (apply bC) | (apply bN) | (apply bJ) | (apply aL (t := 73); refine JL_o (by apply cV; exact cO hs rfl (by omega) rfl) rfl rfl ?_; rintro _ _ ⟨b73, rfl, hb73, hs, hE⟩) | (apply aS; first | refine bF rfl ob ?_ | refine bK rfl ob ?_))
      have hs := St.pushU (p := ((a8, T.length, T.length), T)) (L := [_, _, _, _, _, _, _]) (hs.sel [1, 3, 2, 4, 5, 6, 7, 8, 9] (by decide))
      have hmp : (ps ++ [((a8, T.length, T.length), T)]).map cS = ps.map cS ++ [.slice a8 T.length T.length] := by rw [List.map_append]; rfl
      refine ih (i + 1, ps ++ [((a8, T.length, T.length), T)], a6, c6) _ _ ⟨by dsimp only; unfold RowS; rw [hmp]; exact hs.sel [1, 0, 2, 3, 4, 5, 6, 7] (by decide), by dsimp only; rw [List.map_append, hps, List.take_add_one, hTj]; rfl, by dsimp only; rw [List.length_append, hpl]; rfl, fun p hp => ?_, hil⟩ (by dsimp only; omega) zss
      rcases List.mem_append.1 hp with e | e
      · exact hpo p e
      · rw [List.mem_singleton.1 e]; exact ⟨rfl, hTok⟩
    · have hie : i = UL.length := by omega
      clear ih
      rw [List.take_of_length_le (by omega)] at hps
      repeat' (first | ((apply aL (t := 77); have hs2 : St w NoF _ ([RowS a5 i c5 ps] ++ [_, _, _, _, _, _, _]) := hs; refine JL_o (aC en60 rfl (wO _ a5 i c5 ps (OwnU ps).foot (St.held (A := [_]) hs2) (fun p hp => slPU (hs.all _ zmm) hp (hpo p hp)) (fun k hk => by have h1 := (List.pairwise_cons.1 hs.sep).1 (OwnU ps) zmm k; exact fun h2 => h1 (wV h2) hk) (by omega))) rfl rfl ?_; rintro _ _ ⟨zs, hzp, hzs, ht⟩; have hs := St.take (A := [_]) (A' := [_]) hs2 ht; simp only [zcc] at hs)) | (apply aR) | ((apply aI); (first | (apply aQ; exact aH rfl aA) | (apply aF; exact aB rfl aA) | (apply aK; exact aM rfl rfl rfl aA)); first | (exact rfl; exact rfl) | exact rfl) | (apply bB) | (apply aG) | (apply cI; refine cZ rfl ?_) | (apply aS; refine bK rfl ob ?_))
      have hs := St.permU (L := [_, _, _, _, _, _, _]) hzp.symm (hs.sel [1, 0, 2, 3, 4, 5, 6, 7] (by decide))
      have hzl : i = zs.length := by rw [hzp.length_eq, hpl]
      have hzm := hzp.map Prod.snd
      rw [hps] at hzm
      rw [hzl] at hs
      refine aY Tryz.func58 rfl (.tmp rfl (.tmp rfl .nil)) ⟨zs, a5, c5, by rw [← hzl]; rfl, ⟨fun p hp => hpo p (hzp.mem_iff.1 hp), by omega, List.pairwise_map.2 hzs, (hzm.pairwise_iff (fun h => Ne.symm h)).2 (rW gN), fun t => by rw [hzm.mem_iff, vK, hin t]⟩, (hs.sel [1, 0, 2, 3, 4, 5, 6, 7] (by decide)).out (.cons_cons _ (.cons_cons _ (List.nil_sublist _)))⟩
end Go.Eng
end
section
namespace Go.Eng
open Go.Proofs
set_option linter.unusedSimpArgs false
set_option linter.unusedVariables false
theorem St.shrinkRow {w0 w : World} {F : Nat → Prop} {L : List HP} {a : Option Addr} {n c e sz : Nat} {xs : List Value} (h : St w0 F w (Row a n c e sz xs :: L)) (m : Nat) (hm : m ≤ n) : St w0 F w (Row a m c e sz (xs.take (m * sz)) :: L) := by
  obtain ⟨h1, h2, h3, h4⟩ : RowV w a n c e sz xs := h.all _ List.mem_cons_self
  have hmz := Nat.mul_le_mul_right sz hm
  refine h.conv (fun k hk => hk) (fun _ => ⟨by rw [List.length_take, h1]; omega, by omega, h3, ?_⟩)
  rcases h4 with ⟨rfl, hc⟩ | ⟨g, o, cur, rfl, hg, hsz, ht⟩
  · exact .inl ⟨rfl, hc⟩
  · exact .inr ⟨g, o, cur, rfl, hg, hsz, by rw [← ht, List.take_take, Nat.min_eq_left hmz]⟩
theorem Sl.dropR {α : Type} {d : Ty α} {R : Nat → Prop} {w : World} {b o n c : Nat} {xs : List α} (h : Sl d R w (some ⟨b, o, none⟩) n c xs) (i : Nat) (hi : i ≤ n) : Sl d R w (some ⟨b, o + i * d.sz, none⟩) (n - i) (c - i) (xs.drop i) := by
  obtain ⟨h1, h2, h3, s⟩ := h
  have hl := s.len
  refine ⟨by omega, by omega, (fun h => nomatch h), ⟨by rw [List.length_drop]; omega, (fun h => nomatch h), fun _ ad h => by cases h; rfl, fun b' o' ha hp => by cases ha; exact s.reg _ _ rfl (by omega), fun j x hx => ?_⟩⟩
  rw [List.getElem?_drop] at hx
  obtain ⟨es, hr, hc⟩ := s.el (i + j) x hx
  refine ⟨es, hr, fun b' o' ha q u hq => ?_⟩
  cases ha
  have := hc b o rfl q u hq
  rw [Nat.add_mul, ← Nat.add_assoc] at this
  exact this
theorem Sl.zero {α : Type} {d : Ty α} {R : Nat → Prop} {w : World} {a : Option Addr} : Sl d R w a 0 0 [] := ⟨Nat.le_refl _, by unfold maxLen; omega, fun _ => rfl, ⟨rfl, fun _ => rfl, fun h => absurd h (by omega), fun _ _ _ h => absurd h (by omega), fun i x h => by simp at h⟩⟩
theorem tailS {R : Nat → Prop} {w : World} {a : Option Addr} {m c q : Nat} {rr : List RS} (h : Sl tS R w a m c rr) (hq : q ≤ m) : ∃ A1, (if (c : Int) = (q : Int) then a else a.map (·.add ((q : Int).toNat * 1))) = A1 ∧ Sl tS R w A1 (m - q) (c - q) (rr.drop q) := by
  have hl := h.len
  have hle := h.le
  by_cases e : c = q
  · refine ⟨a, if_pos (by omega), ?_⟩
    rw [show m - q = 0 by omega, show c - q = 0 by omega, List.drop_of_length_le (by omega)]
    exact Sl.zero
  · by_cases e0 : q = 0
    · subst e0
      refine ⟨a, by split; rfl; exact addr0 _, ?_⟩
      rw [Nat.sub_zero, Nat.sub_zero, List.drop_zero]
      exact h
    · obtain ⟨b, o, rfl⟩ := h.sl.addr (by omega)
      exact ⟨some ⟨b, o + q * 1, none⟩, by rw [if_neg (by omega)]; simp [eA], h.dropR q hq⟩
theorem slBlk2 {w : World} {b e : Nat} {p q : RS} (h : w.heap[b]? = some (.cells #[.slice p.1 p.2.1 p.2.2, .slice q.1 q.2.1 q.2.2] e (0, 0))) : Sl tS All w (some ⟨b, 0, none⟩) 2 2 [p, q] :=
  (RowV.slF (d := tS) (show RowV w (some ⟨b, 0, none⟩) 2 2 e 1 (encL cRS [p, q]) from ⟨rfl, Nat.le_refl _, by unfold maxLen; omega, .inr ⟨b, 0, _, rfl, h, Nat.le_refl _, rfl⟩⟩) (by decide) (fun _ _ => trivial)).weak (fun _ _ => trivial)
attribute [local irreducible] Hold J JL JD JX JXat OpR OpG Ret RetV Is Blk Row
set_option maxRecDepth 100000
set_option maxHeartbeats 2000000
theorem xT (w : World) (k : Nat) (hk : k ≤ 1000) :
    Ret Tryz.prog 139 #[.slice none 0 0, .int .i64 k] w fun v w' => ∃ a' c', v = .slice a' 0 c' ∧ Fresh w w' [Row a' 0 c' 43 1 []] := by
  refine cG (l := [_, _]) Tryz.func139 rfl Tryz.ntmps139 (by simp) ?_
  have hs := (St.init w).nilRow 43 1
  by_cases hk0 : k = 0
  · subst hk0
    repeat' (first | (apply aR) | ((apply aI); (first | (apply nD; exact rB rfl aA) | (apply aQ; exact aH rfl aA) | (apply aF; exact aB rfl aA) | (apply dZ; exact dI rfl rfl (by omega) aA) | (apply aK; exact aM rfl rfl rfl aA) | (apply bL; exact bY rfl aA)); first | (exact rfl; exact rfl) | exact rfl) | (apply bB) | (apply aG) | (apply bJ) | (apply aS; refine bK rfl ob ?_))
    refine aY Tryz.func139 rfl (.tmp rfl .nil) ⟨none, 0, rfl, hs.out (List.Sublist.refl _)⟩
  · repeat' (first | ((apply aL (t := 22); refine JL_o (by apply dO; exact oK (sz := 1) (kn := .i64) (kq := .i64) (a := none) (n := 0) (c := 0) (i := 0) (k := k) hs rfl (by first | rfl | (rw [show ((k : Nat) : Int) = (k : Int) - (((0 : Nat) : Int) - ((0 : Nat) : Int)) by omega]; rfl)) (by omega) (by omega) (by omega) (by omega) rfl (by omega) (by unfold maxLen; omega)) rfl rfl ?_; rintro _ _ ⟨b4, c4, zs, rfl, hzl, hs, hE⟩; have hs := hs.shrinkRow 0 (Nat.zero_le _))) | (apply aR) | ((apply aI); (first | (apply nD; exact rB rfl aA) | (apply eC; exact eS (q := 0) rfl rfl (by omega) (by omega) aA) | (apply aQ; exact aH rfl aA) | (apply aF; exact aB rfl aA) | (apply dZ; exact dI rfl rfl (by omega) aA) | (apply aK; exact aM rfl rfl rfl aA) | (apply bL; exact bY rfl aA)); first | (exact rfl; exact rfl) | exact rfl) | (apply bB) | (apply aG) | (apply bJ) | (apply aS; first | refine bF rfl ob ?_ | refine bK rfl ob ?_))
    refine aY Tryz.func139 rfl (.tmp rfl .nil) ⟨some ⟨b4, 0, none⟩, c4, rfl, by rw [Nat.zero_mul, List.take_zero] at hs; exact hs.out (.cons_cons _ (List.nil_sublist _))⟩
theorem tT (w : World) (ao : Option Addr) (co : Nat) (p q : RS) (rs1 rs2 : List RS) (ho : Sl tS All w ao 2 co [p, q]) (h1 : Sl tS All w p.1 p.2.1 p.2.2 rs1) (h2 : Sl tS All w q.1 q.2.1 q.2.2 rs2) (hn : p.2.1 + q.2.1 ≤ 1000) :
    Ret Tryz.prog 62 #[.slice ao 2 co] w fun v w' => ∃ a' c', v = .slice a' (p.2.1 + q.2.1) c' ∧ Fresh w w' [Row a' (p.2.1 + q.2.1) c' 43 1 (encL cRS (rs1 ++ rs2))] := by
  refine cG (l := [_]) Tryz.func62 rfl Tryz.ntmps62 (by simp) ?_
  have hs := St.init w
  obtain ⟨po, oo, rfl⟩ := ho.sl.addr (by omega)
  obtain ⟨as_, ap, _⟩ := h1.srcF
  obtain ⟨bs, bp, _⟩ := h2.srcF
  have al := h1.len
  have bl := h2.len
  have hs : St w NoF w [] := hs
  repeat' (first | (apply aR) | ((apply aI); (first | (apply aQ; exact aH rfl aA) | (apply aF; exact aB rfl aA) | (apply bL; exact bY rfl aA)); first | (exact rfl; exact rfl) | exact rfl) | (apply bB) | (apply aG) | (apply bC))
  refine dG (α := Nat × Nat) [(0, _), (9, _), (10, _)] (fun g => [(3, .int .i64 g.2), (11, .int .i64 g.1)]) (fun g w' => St w NoF w' [] ∧ (g.1 = 1 → g.2 = p.2.1) ∧ (g.1 = 2 → g.2 = p.2.1 + q.2.1) ∧ g.1 ≤ 2 ∧ (g.1 = 0 → g.2 = 0)) (fun g => 2 - g.1) (0, 0) ⟨hs, by simp, by simp, Nat.zero_le _, fun _ => rfl⟩ zss ?_
  rintro ⟨k, s⟩ w2 ⟨hs1, e1, e2, hk, e0⟩ ih
  dsimp only at hs1 e1 e2 hk e0 ih ⊢
  have hs : St w NoF w2 [] := hs1
  have hcase : k = 0 ∨ k = 1 ∨ k = 2 := by omega
  rcases hcase with rfl | rfl | rfl
  · have hs0 := e0 rfl
    repeat' (first | (apply aR) | ((apply aI); (first | (apply aV; first | exact aU hs rfl rfl aA | exact aJ hs rfl aA | exact bU (i := 0) (j := 0) (ho.st hs) rfl rfl rfl rfl aA) | (apply aQ; exact aH rfl aA) | (apply aF; exact aB rfl aA) | (apply cJ; exact bR rfl rfl (by omega) (by first | (simp only [Int.reduceAdd]; exact rfl) | exact rfl) aA) | (apply aK; exact aM rfl rfl rfl aA) | (apply bL; exact bY rfl aA) | (apply aO; exact aN rfl rfl (by omega) (by omega) aA)); first | (exact rfl; exact rfl) | exact rfl) | (apply bB) | (apply aG) | (apply bC) | (apply bN) | (apply bJ) | (apply aS; first | refine bF rfl ob ?_ | refine bK rfl ob ?_))
    refine ih (1, s + p.2.1) _ _ ⟨hs, by dsimp only; omega, by dsimp only; omega, by dsimp only; omega, by dsimp only; omega⟩ (by dsimp only; omega) zss
  · have hs0 := e1 rfl
    repeat' (first | (apply aR) | ((apply aI); (first | (apply aV; first | exact aU hs rfl rfl aA | exact aJ hs rfl aA | exact bU (i := 1) (j := 0) (ho.st hs) rfl rfl rfl rfl aA) | (apply aQ; exact aH rfl aA) | (apply aF; exact aB rfl aA) | (apply cJ; exact bR rfl rfl (by omega) (by first | (simp only [Int.reduceAdd]; exact rfl) | exact rfl) aA) | (apply aK; exact aM rfl rfl rfl aA) | (apply bL; exact bY rfl aA) | (apply aO; exact aN rfl rfl (by omega) (by omega) aA)); first | (exact rfl; exact rfl) | exact rfl) | (apply bB) | (apply aG) | (apply bC) | (apply bN) | (apply bJ) | (apply aS; first | refine bF rfl ob ?_ | refine bK rfl ob ?_))
    refine ih (2, s + q.2.1) _ _ ⟨hs, by dsimp only; omega, by dsimp only; omega, by dsimp only; omega, by dsimp only; omega⟩ (by dsimp only; omega) zss
  have hs0 := e2 rfl
  clear ih
  repeat' (first | ((apply aW 139; refine JL_o (by exact aC en139 rfl (xT _ s (by omega))) rfl rfl ?_; rintro _ _ ⟨ag, cg, rfl, hf⟩; have hs := hs.fresh hf; (try simp only [zcc] at hs))) | (apply aR) | ((apply aI); (first | (apply aQ; exact aH rfl aA) | (apply aF; exact aB rfl aA) | (apply aK; exact aM rfl rfl rfl aA) | (apply bL; exact bY rfl aA)); first | (exact rfl; exact rfl) | exact rfl) | (apply bB) | (apply aG) | (apply bC) | (apply cI; refine cZ rfl ?_) | (apply aS; refine bK rfl ob ?_))
  refine dG (α := Nat × Option Addr × Nat × Nat × List RS) [(25, _), (26, _)] (fun g => [(6, .slice g.2.1 g.2.2.2.1 g.2.2.1), (27, .int .i64 g.1)]) (fun g w' => St w NoF w' [Row g.2.1 g.2.2.2.1 g.2.2.1 43 1 (encL cRS g.2.2.2.2)] ∧ g.2.2.2.2.length = g.2.2.2.1 ∧ (g.1 = 0 → g.2.2.2.2 = []) ∧ (g.1 = 1 → g.2.2.2.2 = rs1) ∧ (g.1 = 2 → g.2.2.2.2 = rs1 ++ rs2) ∧ g.1 ≤ 2) (fun g => 2 - g.1) (0, ag, cg, 0, []) ⟨hs, rfl, fun _ => rfl, by simp, by simp, Nat.zero_le _⟩ zss ?_
  rintro ⟨k, a5, c5, m, xs⟩ w3 ⟨hs1, hml, f0, f1, f2, hk⟩ ih
  dsimp only at hs1 hml f0 f1 f2 hk ih ⊢
  have hs : St w NoF w3 [_] := hs1
  have hcase : k = 0 ∨ k = 1 ∨ k = 2 := by omega
  rcases hcase with rfl | rfl | rfl
  · have hx := f0 rfl
    have hm0 : m = 0 := by rw [← hml, hx]; rfl
    repeat' (first | ((apply aL (t := 33); refine JL_o (by apply dO; exact fJ (xs := encL cRS xs) (news := encL cRS rs1) hs rfl rfl (Src.st as_ hs) ap rfl (by omega) (by unfold maxLen; omega)) rfl rfl ?_; rintro _ _ ⟨a4, c4, rfl, hs, hF, hnil⟩)) | (apply aR) | ((apply aI); (first | (apply aV; first | exact aU hs rfl rfl aA | exact aJ hs rfl aA | exact bU (i := 0) (j := 0) (ho.st hs) rfl rfl rfl rfl aA) | (apply aQ; exact aH rfl aA) | (apply aF; exact aB rfl aA) | (apply cJ; exact bR rfl rfl (by omega) (by first | (simp only [Int.reduceAdd]; exact rfl) | exact rfl) aA) | (apply aK; exact aM rfl rfl rfl aA) | (apply aO; exact aN rfl rfl (by omega) (by omega) aA)); first | (exact rfl; exact rfl) | exact rfl) | (apply bB) | (apply aG) | (apply bC) | (apply bN) | (apply bJ) | (apply aS; refine bF rfl ob ?_))
    rw [← gP] at hs
    refine ih (1, a4, c4, m + p.2.1, xs ++ rs1) _ _ ⟨hs, by dsimp only; rw [List.length_append, hml, al], by simp, fun _ => by dsimp only; rw [hx]; rfl, by simp, by dsimp only; omega⟩ (by dsimp only; omega) zss
  · have hx := f1 rfl
    have hm0 : m = p.2.1 := by rw [← hml, hx]; exact al
    repeat' (first | ((apply aL (t := 33); refine JL_o (by apply dO; exact fJ (xs := encL cRS xs) (news := encL cRS rs2) hs rfl rfl (Src.st bs hs) bp rfl (by omega) (by unfold maxLen; omega)) rfl rfl ?_; rintro _ _ ⟨a4, c4, rfl, hs, hF, hnil⟩)) | (apply aR) | ((apply aI); (first | (apply aV; first | exact aU hs rfl rfl aA | exact aJ hs rfl aA | exact bU (i := 1) (j := 0) (ho.st hs) rfl rfl rfl rfl aA) | (apply aQ; exact aH rfl aA) | (apply aF; exact aB rfl aA) | (apply cJ; exact bR rfl rfl (by omega) (by first | (simp only [Int.reduceAdd]; exact rfl) | exact rfl) aA) | (apply aK; exact aM rfl rfl rfl aA) | (apply aO; exact aN rfl rfl (by omega) (by omega) aA)); first | (exact rfl; exact rfl) | exact rfl) | (apply bB) | (apply aG) | (apply bC) | (apply bN) | (apply bJ) | (apply aS; refine bF rfl ob ?_))
    rw [← gP] at hs
    refine ih (2, a4, c4, m + q.2.1, xs ++ rs2) _ _ ⟨hs, by dsimp only; rw [List.length_append, hml, bl], by simp, by simp, fun _ => by dsimp only; rw [hx], by dsimp only; omega⟩ (by dsimp only; omega) zss
  · have hx := f2 rfl
    have hm0 : m = p.2.1 + q.2.1 := by rw [← hml, hx, List.length_append, al, bl]
    clear ih
    repeat' (first | (apply aR) | ((apply aI); (first | (apply aQ; exact aH rfl aA) | (apply aF; exact aB rfl aA) | (apply aK; exact aM rfl rfl rfl aA)); first | (exact rfl; exact rfl) | exact rfl) | (apply bB) | (apply aG) | (apply cI; refine cZ rfl ?_) | (apply aS; refine bK rfl ob ?_))
    rw [hx, hm0] at hs
    refine aY Tryz.func62 rfl (.tmp rfl .nil) ⟨a5, c5, by rw [hm0]; rfl, hs.out (List.Sublist.refl _)⟩
end Go.Eng
end
section
namespace Go.Eng
open Go.Proofs
set_option linter.unusedSimpArgs false
set_option linter.unusedVariables false
theorem rL (x : Int) : 0 ≤ IntKind.u64.wrap x := by
  simp only [IntKind.wrap, IntKind.bits, IntKind.signed]
  exact Int.emod_nonneg _ (by omega)
theorem rot_eq {ts : List (List Int)} {q : Nat} {Y Z : List (List Int)} (h1 : wN Y) (h2 : wN Z) (d1 : Y.Pairwise (· ≠ ·)) (d2 : Z.Pairwise (· ≠ ·)) (m1 : ∀ t, t ∈ Y ↔ t = [] ∨ (t ∈ ts ∧ dR t = true)) (m2 : ∀ t, t ∈ Z ↔ t = [] ∨ (t ∈ ts.drop q ++ ts.take q ∧ dR t = true)) : Y = Z := by
  refine vC h1 h2 d1 d2 fun t => ?_
  have e : t ∈ ts.drop q ++ ts.take q ↔ t ∈ ts := by
    conv => rhs; rw [← List.take_append_drop q ts]
    rw [List.mem_append, List.mem_append, or_comm]
  rw [m1, m2, e]
theorem rowRot {w0 w : World} {L : List HP} {a : Option Addr} {n c q : Nat} {rr : List RS} {ts : List (List Int)} (hs : St w0 NoF w L) (h1 : Row a n c 43 1 (encL cRS (rr.drop q ++ rr.take q)) ∈ L) (hm : MeanV (tD (tInt .u64)) All w rr ts) : Sl (tSl (tInt .u64)) All w a n c (ts.drop q ++ ts.take q) :=
  Sl.unraw (D := mE) ((RowV.slF (d := tS) (hs.all _ h1) (by decide) (fun _ _ => trivial)).weak (fun _ _ => trivial)) ((hm.drop q).app (hm.take q))
attribute [local irreducible] Hold J JL JD JX JXat OpR OpG Ret RetV Is Blk Row
set_option maxRecDepth 100000
set_option maxHeartbeats 2000000
theorem graphOrder_w (w : World) (a : Option Addr) (n c : Nat) (tss : List (List Int)) (x : Int) (h : Sl (tSl (tInt .u64)) All w a n c tss) (hxi : inK .i64 x) :
    Ret Tryz.prog 9 #[.slice a n c, .int .i64 x] w fun v w' => v = .bool true ∧ Ext w w' := by
  refine cG (l := [_, _]) Tryz.func9 rfl Tryz.ntmps9 (by simp) ?_
  have hs := St.init w
  have hle := h.le
  have hcp := h.cap
  unfold maxLen at hcp
  have hcut := h.cutM 6
  obtain ⟨m, hmd⟩ : ∃ m, m = min n 6 := ⟨_, rfl⟩
  obtain ⟨ts, hts⟩ : ∃ ts, ts = tss.take 6 := ⟨_, rfl⟩
  rw [← hmd, ← hts] at hcut
  obtain ⟨rr, hr, hm⟩ := Sl.raw (D := mE) hcut
  have hlr := hr.len
  have hmc : m ≤ c := by omega
  have hm6 : m ≤ 6 := by omega
  have hw0 := rL x
  obtain ⟨q, hq⟩ : ∃ q : Nat, IntKind.u64.wrap x % ((m : Int) + 1) = (q : Int) := ⟨(IntKind.u64.wrap x % ((m : Int) + 1)).toNat, (Int.toNat_of_nonneg (Int.emod_nonneg _ (by omega))).symm⟩
  have hqm : q ≤ m := by
    have := Int.emod_lt_of_pos (IntKind.u64.wrap x) (show (0 : Int) < (m : Int) + 1 by omega)
    omega
  obtain ⟨A1, hA1, hd⟩ := tailS hr hqm
  have htk := hr.cut q hqm
  have hsum : m - q + q = m := by omega
  repeat' (first | ((apply aW 30; refine JL_o (by exact aC en30 rfl (yA _)) rfl rfl ?_; rintro _ _ ⟨rfl, hE⟩; have hs := hs.ext hE; (try simp only [zcc] at hs))) | ((apply aL (t := 29); refine JL_o (cH rfl rfl (Ret.value (cap := #[]) en58 (rV _ a m c ts (hcut.st hs) hm6))) rfl rfl ?_; rintro _ _ ⟨zs1, a7, c7, rfl, ⟨hok1, hl1, hso1, hd1, hm1⟩, hf⟩; have hs := hs.fresh hf; (try simp only [zcc] at hs))) | ((apply ax_c; apply kT 62; exact rfl; (intro W X hN hs; exact aC en62 rfl ((tT _ (some ⟨b40, 0, none⟩) 2 (A1, m - q, c - q) (a, q, c) (rr.drop q) (rr.take q) (slBlk2 (hs.blk (b := b40))) (hd.st hs) (htk.st hs) (by show m - q + q ≤ 1000; omega)).mono (fun _ _ r => by dsimp only at r; rw [hsum] at r; exact r))); (rintro _ _ _ _ ⟨a8, c8, rfl, hf⟩; first | exact hE | exact Fresh.ext hf); rintro W X _ _ hN hs ⟨a8, c8, rfl, hf⟩; have hs := hs.fresh hf; (try simp only [zcc] at hs); refine JX.at hs ?_)) | ((apply ax_c; apply JX_c (t := 42); exact rfl; (intro W X hN hs; exact cH rfl rfl (Ret.value (cap := #[]) en58 (rV _ a8 m c8 (ts.drop q ++ ts.take q) (rowRot (L := _ :: _) hs zmm (hm.st hs)) hm6))); (rintro _ _ _ _ ⟨zs2, a9, c9, rfl, ⟨hok2, hl2, hso2, hd2, hm2⟩, hf⟩; first | exact Ext.rl hE | exact Ext.rl (Fresh.ext hf)); exact rfl; rintro W X _ _ hN hs ⟨zs2, a9, c9, rfl, ⟨hok2, hl2, hso2, hd2, hm2⟩, hf⟩; have hs := hs.fresh hf; (try simp only [zcc] at hs); refine JX.at hs ?_)) | ((apply cN 63; refine cX rfl gb (by exact aC en63 rfl ((yF _ a7 a9 zs1.length c7 zs2.length c9 (zs1.map Prod.snd) (zs2.map Prod.snd) (slS hs zmm zmm hok1) (slS hs zmm zmm hok2) (by omega)).mono (fun _ _ r => by rw [decide_eq_true (rot_eq hso1 hso2 hd1 hd2 hm1 hm2)] at r; exact r))) rfl rfl ?_; rintro _ _ ⟨rfl, hE⟩; have hs := hs.ext hE; (try simp only [zcc] at hs))) | (apply aR) | ((first | (apply aI) | (apply bX; exact rfl; exact gb) | (apply JX_f; exact rfl; intro W X hs)); (first | (apply aK; exact qZ rfl rfl hw0 (by omega) (by rw [hq]; exact aA)) | (apply fO; first | exact gK rfl (by omega) aA | exact gE rfl (by omega) aA | exact kR rfl aA) | (apply eC; first | exact eS (q := m) rfl rfl (by omega) (by omega) aA | exact eS (q := q) rfl rfl (by omega) (by omega) aA | exact eH (kl := .i64) (kh := .i64) (km := .i64) (a' := A1) (l := (q : Int)) (h := (m : Int)) (m := (c : Int)) rfl (.inr ⟨_, rfl, rfl⟩) (.inl ⟨rfl, rfl, rfl⟩) (.inl ⟨rfl, rfl⟩) (by omega) (by omega) (by omega) (by omega) hA1 (by rw [show ((m : Int) - (q : Int)).toNat = m - q by omega, show ((c : Int) - (q : Int)).toNat = c - q by omega]; exact aA)) | (apply aQ; exact aH rfl aA) | (apply aF; exact aB rfl aA) | (apply cJ; exact bR rfl rfl (by omega) (by first | (simp only [Int.reduceAdd]; exact rfl) | exact rfl) aA) | (apply cB; exact cE rfl aA) | (apply cF; exact bW rfl gb rfl aA) | (apply bL; exact bY rfl aA) | (apply bS; exact bM rfl rfl aA) | (apply as_b_min; exact OpR_min rfl rfl aA)); first | (exact rfl; exact rfl) | exact rfl) | (apply bB) | (apply aG) | (apply bJ) | (apply ax_n; refine JX_n (t := 40) rfl (fun W L hs => by apply cV; exact cO hs rfl (by omega) rfl) rfl ?_) | (apply ax_k; (first | refine JX_k (t := 40) ?_ | refine JX_k2 (t := 40) rfl ?_); intro b40) | (apply aS; refine bV rfl gb ?_) | (apply dB; (refine dE (id := 7) [0, 0, 0, 6, 0, 0, 48, 126, 254, 511, 1023, 2047, 2047, 4095, 16383] [(0, 0), (1, 0), (2, 0), (3, 0), (4, 0), (5, 0), (6, 0), (7, 2), (7, 3), (8, 1), (9, 1), (10, 0), (11, 0), (12, 0), (13, 0), (14, 0)] [] hs eI (by kernel_rfl) (by kernel_rfl) (by kernel_rfl) (by kernel_rfl) (by kernel_rfl) ?_)) | (refine dA (fun W hs => ?_)) | (apply dP))
  refine aY Tryz.func9 rfl (.tmp rfl .nil) ⟨rfl, hs.frm.ext⟩
end Go.Eng
end
