/- The texts L36, joined. -/
import Derived.Test.YtcoldgkhlkjjmaaY5
/- LookupTurn. -/
namespace Go.Eng
open Go.Proofs
set_option linter.unusedSimpArgs false
set_option linter.unusedVariables false
theorem putE_zero_iff {es : List Ent} {t : List Int} {v : Int} (h : putE es t v = 0) : checkB es = true ∧ ¬ 0 ≤ placeM es t := by
  unfold putE at h
  by_cases hc : checkB es = true
  · refine ⟨hc, fun hp => ?_⟩
    rw [if_pos hc] at h
    by_cases ht : typeB t = true
    · rw [if_pos ht] at h
      by_cases hv : v < 0
      · rw [if_pos hv] at h; exact absurd h (by decide)
      · rw [if_neg hv, if_pos hp] at h; exact absurd h (by decide)
    · rw [if_neg ht] at h; exact absurd h (by decide)
  · rw [if_neg hc] at h; exact absurd h (by decide)
theorem all_put {es es3 : List Ent} {e : Ent} (hc : checkB es = true) (hc3 : checkB es3 = true) (he : e.1 = 1) (hp : (es3.filter stands).Perm (allM es ++ [e])) (hn : ∀ y ∈ es.filter stands, y.2.1 ≠ e.2.1) : allM es3 = withM (allM es) e ∧ withoutM (allM es3) e.2.1 = allM es := by
  have h1 : allM es3 = withM (allM es) e := (allM_uniq (check_distinct hc3) ((withM_perm (allM es) e).trans ((List.perm_append_comm (l₁ := [e])).trans hp.symm)) (withM_sorted (allM_sorted es) e)).symm
  refine ⟨h1, ?_⟩
  refine allM_uniq (check_distinct hc) ?_ ((allM_sorted es3).sublist List.filter_sublist)
  have h2 : (withoutM (allM es3) e.2.1).Perm (withoutM (allM es ++ [e]) e.2.1) := ((allM_perm es3).trans hp).filter _
  refine h2.trans ?_
  unfold withoutM
  rw [List.filter_append, List.filter_eq_self.2 (fun y hy => by have := hn y ((allM_perm es).mem_iff.1 hy); simpa using this), List.filter_cons_of_neg (by simp), List.filter_nil, List.append_nil]
  exact allM_perm es
theorem find_none {es : List Ent} {t : List Int} (h : ∀ y ∈ es.filter stands, y.2.1 ≠ t) : findM es t = (0, false) := by
  unfold findM
  by_cases hc : checkB es = true
  · rw [if_pos hc]
    rcases placeM_cases es t with h1 | ⟨q, x, hx, _, h1, h2⟩
    · rw [h1, if_pos (by decide)]
    · exact absurd h2 (h x (List.mem_filter.2 ⟨List.mem_of_getElem? hx, decide_eq_true h1⟩))
  · rw [if_neg hc]
theorem drop_none {es : List Ent} (hc : checkB es = true) {p : Nat} {x : Ent} (hx : es[p]? = some x) (hx1 : x.1 = 1) : ∀ y ∈ (es.set p gone).filter stands, y.2.1 ≠ x.2.1 := by
  have hd2 : distinctE (x :: (es.set p gone).filter stands) := ((filter_drop hx hx1).pairwise_iff (fun h => Ne.symm h)).1 (check_distinct hc)
  unfold distinctE at hd2
  rw [List.pairwise_cons] at hd2
  exact fun y hy => (hd2.1 y hy).symm
theorem allF_true {es : List Ent} (h : checkB es = true) : allF es = allM es := by unfold allF; rw [if_pos h]
theorem dropE_zero {es : List Ent} (hc : checkB es = true) {x : Ent} (hx : x ∈ es.filter stands) : dropE es x.2.1 = 0 := by
  obtain ⟨i, h1, _⟩ := place_mem hc hx
  unfold dropE
  rw [if_pos hc, h1, if_neg (by omega)]
theorem turn_facts {E es3 es4 : List Ent} {tt : List Int} {v : Int} {p : Nat} {x : Ent} (hcE : checkB E = true) (hc3 : checkB es3 = true) (hp3 : (es3.filter stands).Perm (allM E ++ [(1, tt, v)])) (hnE : ∀ y ∈ E.filter stands, y.2.1 ≠ tt) (hx : es3[p]? = some x) (hx1 : x.1 = 1) (hxt : x.2.1 = tt) (h4 : es4 = es3.set p gone) :
    checkB es4 = true ∧ (findM es4 tt).1 = 0 ∧ (findM es4 tt).2 = false ∧ allF es4 = allF E ∧ (allF es3).length = (allF E).length + 1 := by
  subst h4
  have hc4 := check_drop hc3 hx hx1
  obtain ⟨_, hwo3⟩ := all_put (e := (1, tt, v)) hcE hc3 rfl hp3 hnE
  have hfd : findM (es3.set p gone) tt = (0, false) := find_none (by rw [← hxt]; exact drop_none hc3 hx hx1)
  refine ⟨hc4, by rw [hfd], by rw [hfd], ?_, ?_⟩
  · rw [allF_true hc4, allF_true hcE, all_drop hc3 hx hx1, hxt]; exact hwo3
  · rw [allF_true hc3, allF_true hcE, (allM_perm es3).length_eq, hp3.length_eq, List.length_append]; rfl
attribute [local irreducible] Hold J JL JD JX JXat OpR OpG Ret RetV Is Blk Row MapC
set_option maxRecDepth 100000
set_option maxHeartbeats 1000000
theorem drop_ok (w : World) (a : Option Addr) (n c : Nat) (es : List Ent) (a2 : Option Addr) (n2 c2 : Nat) (t : List Int) (h : Sl dEnt All w a n c es) (hn : n ≤ 1048576) (h2 : Sl (tInt .u64) All w a2 n2 c2 t) (hd : dropE es t = 0) :
    Ret Try.prog 27 #[.agg #[.slice a n c], .slice a2 n2 c2] w fun u w' => ∃ (p : Nat) (x : Ent) (rs' : List REnt) (a' : Option Addr) (c' : Nat), (es[p]? = some x ∧ x.1 = 1 ∧ x.2.1 = t) ∧ u = .tuple #[.agg #[.slice a' n c'], .int .i64 0] ∧ Fresh w w' [TabRow a' n c' rs', Own rs' (es.set p gone)] :=
  (drop_r w a n c es a2 n2 c2 t h hn h2).mono fun u w' hh => by
    rcases hh with ⟨h1, _⟩ | ⟨_, h2⟩
    · exact absurd hd h1
    · exact h2
theorem lookupTurn_w (w : World) (a : Option Addr) (n c : Nat) (es : List Ent) (a2 : Option Addr) (n2 c2 : Nat) (t : List Int) (v : Int) (h : Sl dEnt All w a n c es) (h2 : Sl (tInt .u64) All w a2 n2 c2 t) (hv : inK .i64 v) :
    Ret Try.prog 6 #[.agg #[.slice a n c], .slice a2 n2 c2, .int .i64 v] w fun u w' => u = .bool true ∧ Ext w w' := by
  refine Ret_of (l := [_, _, _]) Try.func6 rfl Try.ntmps6 (by simp) ?_
  have hs := St.init w
  obtain ⟨E, hEd⟩ : ∃ E, E = ownM es := ⟨_, rfl⟩
  have hE130 : E.length ≤ 130 := by rw [hEd]; exact ownM_len es
  obtain ⟨q, hq⟩ : ∃ q, q = min n2 14 := ⟨_, rfl⟩
  have hq1 : q ≤ n2 := by omega
  have mcut := h2.cut q hq1
  have hmcap := h2.le
  obtain ⟨tt, htt⟩ : ∃ tt, tt = t.take q := ⟨_, rfl⟩
  rw [← htt] at mcut
  by_cases hp : putE E tt v = 0
  · obtain ⟨hcE, hpl⟩ := putE_zero_iff hp
    have hnE := place_none hcE hpl
    have hEl := allF_le E
    repeat' (first
      | ((apply al_none (t := 15); refine JL_o (OpR_callF en11 rfl (wakes_r _)) rfl rfl ?_; rintro _ _ ⟨rfl, hE⟩; have hs := hs.ext hE))
      | ((apply al_call 12; refine JL_o (by exact OpR_callF en12 rfl (own_r _ a n c es (h.st hs))) rfl rfl ?_; rintro _ _ ⟨rs, a1, c1, rfl, hf⟩; rw [← hEd] at hf ⊢; have hs := hs.fresh hf; (try simp only [List.cons_append, List.nil_append] at hs)))
      | ((apply al_call 28; refine JL_o (by exact OpR_callF en28 rfl (put_ok _ a1 E.length c1 E a2 q c2 tt v (slOwn (rs := rs) hs (by repeat (first | exact List.Mem.head _ | apply List.Mem.tail)) (by repeat (first | exact List.Mem.head _ | apply List.Mem.tail))) (by omega) (mcut.st hs) hv hp)) rfl rfl ?_; rintro _ _ ⟨es3, rs3, a3, ⟨hc3, hp3, hb3⟩, rfl, hf⟩; have hs := hs.fresh hf; obtain ⟨hal3, hwo3⟩ := all_put (e := (1, tt, v)) hcE hc3 rfl hp3 hnE; have hm3 : ((1, tt, v) : Ent) ∈ es3.filter stands := hp3.mem_iff.2 (by simp); have hfd3 : (findM es3 tt).1 = v := (by rw [find_mem hc3 hm3]); have hfd3b : (findM es3 tt).2 = true := (by rw [find_mem hc3 hm3]); have hd3 : dropE es3 tt = 0 := dropE_zero hc3 hm3; (try simp only [List.cons_append, List.nil_append] at hs)))
      | ((apply al_call 27; refine JL_o (by exact OpR_callF en27 rfl (drop_ok _ a3 es3.length es3.length es3 a2 q c2 tt (slOwn (rs := rs3) hs (by repeat (first | exact List.Mem.head _ | apply List.Mem.tail)) (by repeat (first | exact List.Mem.head _ | apply List.Mem.tail))) hb3 (mcut.st hs) hd3)) rfl rfl ?_; rintro _ _ ⟨p, x, rs4, a4, c4, ⟨hx, hx1, hxt⟩, rfl, hf⟩; obtain ⟨es4, hes4⟩ : ∃ es4, es4 = es3.set p gone := ⟨_, rfl⟩; rw [← hes4] at hf; have hs := hs.fresh hf; obtain ⟨hc4, hfd4, hfd4b, hsm, hcnt⟩ := turn_facts hcE hc3 hp3 hnE hx hx1 hxt hes4; (try simp only [List.cons_append, List.nil_append] at hs)))
      | ((apply al_call 19; refine JL_o (by exact OpR_callF en19 rfl (find_r _ a3 es3.length es3.length es3 a2 q c2 tt (slOwn (rs := rs3) hs (by repeat (first | exact List.Mem.head _ | apply List.Mem.tail)) (by repeat (first | exact List.Mem.head _ | apply List.Mem.tail))) hb3 (mcut.st hs))) rfl rfl ?_; rintro _ _ ⟨rfl, hE⟩; rw [hfd3, hfd3b]; have hs := hs.ext hE; (try simp only [List.cons_append, List.nil_append] at hs)))
      | ((apply al_call 19; refine JL_o (by exact OpR_callF en19 rfl (find_r _ a4 es3.length c4 es4 a2 q c2 tt (slOwn (rs := rs4) hs (by repeat (first | exact List.Mem.head _ | apply List.Mem.tail)) (by repeat (first | exact List.Mem.head _ | apply List.Mem.tail))) hb3 (mcut.st hs))) rfl rfl ?_; rintro _ _ ⟨rfl, hE⟩; rw [hfd4, hfd4b]; have hs := hs.ext hE; (try simp only [List.cons_append, List.nil_append] at hs)))
      | ((apply ax_c; apply JX_cFg 34; exact rfl; exact rfl; exact gb; (intro W X hN hs; exact OpR_callF en34 rfl (same_r _ a4 a1 es3.length c4 E.length c1 es4 E (slOwn (rs := rs4) hs (by repeat (first | exact List.Mem.head _ | apply List.Mem.tail)) (by repeat (first | exact List.Mem.head _ | apply List.Mem.tail))) (slOwn (rs := rs) hs (by repeat (first | exact List.Mem.head _ | apply List.Mem.tail)) (by repeat (first | exact List.Mem.head _ | apply List.Mem.tail))) hb3 (by omega))); (rintro _ _ _ _ ⟨rfl, hE⟩; first | exact hE | exact Fresh.ext hf); rintro W X _ _ hN hs ⟨rfl, hE⟩; rw [decide_eq_true hsm]; have hs := hs.ext hE; (try simp only [List.cons_append, List.nil_append] at hs); refine JX.at hs ?_))
      | ((apply ax_c; apply JX_cFg 16; exact rfl; exact rfl; exact gb; (intro W X hN hs; exact OpR_callF en16 rfl (lcheck_r _ a3 es3.length es3.length es3 (slOwn (rs := rs3) hs (by repeat (first | exact List.Mem.head _ | apply List.Mem.tail)) (by repeat (first | exact List.Mem.head _ | apply List.Mem.tail))) hb3)); (rintro _ _ _ _ ⟨rfl, hE⟩; first | exact hE | exact Fresh.ext hf); rintro W X _ _ hN hs ⟨rfl, hE⟩; rw [if_pos hc3]; have hs := hs.ext hE; (try simp only [List.cons_append, List.nil_append] at hs); refine JX.at hs ?_))
      | ((apply ax_c; apply JX_cFg 16; exact rfl; exact rfl; exact gb; (intro W X hN hs; exact OpR_callF en16 rfl (lcheck_r _ a4 es3.length c4 es4 (slOwn (rs := rs4) hs (by repeat (first | exact List.Mem.head _ | apply List.Mem.tail)) (by repeat (first | exact List.Mem.head _ | apply List.Mem.tail))) hb3)); (rintro _ _ _ _ ⟨rfl, hE⟩; first | exact hE | exact Fresh.ext hf); rintro W X _ _ hN hs ⟨rfl, hE⟩; rw [if_pos hc4]; have hs := hs.ext hE; (try simp only [List.cons_append, List.nil_append] at hs); refine JX.at hs ?_))
      | ((apply ax_c; apply JX_cFg 18; exact rfl; exact rfl; exact gb; (intro W X hN hs; exact OpR_callF en18 rfl (many_r _ a3 es3.length es3.length es3 (slOwn (rs := rs3) hs (by repeat (first | exact List.Mem.head _ | apply List.Mem.tail)) (by repeat (first | exact List.Mem.head _ | apply List.Mem.tail))) hb3)); (rintro _ _ _ _ ⟨rfl, hE⟩; first | exact hE | exact Fresh.ext hf); rintro W X _ _ hN hs ⟨rfl, hE⟩; rw [hcnt]; have hs := hs.ext hE; (try simp only [List.cons_append, List.nil_append] at hs); refine JX.at hs ?_))
      | ((apply ax_c; apply JX_cFg 18; exact rfl; exact rfl; exact gb; (intro W X hN hs; exact OpR_callF en18 rfl (many_r _ a1 E.length c1 E (slOwn (rs := rs) hs (by repeat (first | exact List.Mem.head _ | apply List.Mem.tail)) (by repeat (first | exact List.Mem.head _ | apply List.Mem.tail))) (by omega))); (rintro _ _ _ _ ⟨rfl, hE⟩; first | exact hE | exact Fresh.ext hf); rintro W X _ _ hN hs ⟨rfl, hE⟩; have hs := hs.ext hE; (try simp only [List.cons_append, List.nil_append] at hs); refine JX.at hs ?_))
      | (apply JL_nil)
      | ((first | (apply JL_pure) | (apply JX_f; exact rfl; intro W X hs) | (apply JX_f_on; exact rfl; exact rfl; exact gb; intro W X hs)); (first
      | (apply as_slice; exact OpR_slice (kl := .i64) (kh := .i64) (km := .i64) (a' := a2) (m := c2) (h := min (n2 : Int) 14) rfl (.inl ⟨rfl, rfl⟩) (.inr ⟨_, rfl, rfl⟩) (.inl ⟨rfl, rfl⟩) (by omega) (by omega) (by omega) (by omega) (by split; rfl; exact addr0 _) (by rw [show (min (n2 : Int) 14 - 0).toNat = q by omega, Int.sub_zero, Int.toNat_natCast]; exact is_rfl))
      | (apply as_move; exact OpR_move rfl is_rfl)
      | (apply as_assign; exact OpR_assign rfl is_rfl)
      | (apply as_load; exact OpR_load_agg' hs rfl is_rfl)
      | (apply as_add; exact OpR_addn rfl rfl (by omega) (by first | (simp only [Int.reduceAdd]; exact rfl) | exact rfl) is_rfl)
      | (apply as_binOp; exact OpR_ibin rfl rfl rfl is_rfl)
      | (apply as_unOp; exact OpR_not rfl is_rfl)
      | (apply as_pick; exact OpR_pick_t rfl gb rfl is_rfl)
      | (apply as_b_len; exact OpR_len rfl is_rfl)
      | (apply as_extract; exact OpR_extract rfl rfl is_rfl)
      | (apply as_b_min; exact OpR_min rfl rfl is_rfl)); first | (exact rfl; exact rfl) | exact rfl)
      | (apply J_seq)
      | (apply J_region)
      | (apply J_skip)
      | (apply al_none (t := 3); refine JL_o (by apply as_box; exact OpR_box' hs rfl) rfl rfl ?_; rintro _ _ ⟨b3, rfl, hb3, hs, hE⟩)
      | (apply al_none (t := 7); refine JL_o (by apply as_alloc; exact OpR_alloc' hs) rfl rfl ?_; rintro _ _ ⟨b7, rfl, hb7, hs, hE⟩)
      | (apply al_none (t := 8); refine JL_o (by apply as_alloc; exact OpR_alloc' hs) rfl rfl ?_; rintro _ _ ⟨b8, rfl, hb8, hs, hE⟩)
      | (apply al_none (t := 12); refine JL_o (by apply as_alloc; exact OpR_alloc' hs) rfl rfl ?_; rintro _ _ ⟨b12, rfl, hb12, hs, hE⟩)
      | (apply al_unit; refine JL_u (by apply as_store; exact OpR_store' hs rfl rfl rfl) rfl ?_; rintro _ _ ⟨hs, hF⟩)
      | (apply aj_cond; first | refine J_dec_f rfl ob ?_ | refine J_cond_f rfl gb ?_)
      | (apply aj_draw; (refine J_drawX (id := 11) [0, 1, 3, 7, 15, 31, 63, 63, 255, 511, 1023, 2047, 4095, 8191, 16383, 32767, 32767, 131071, 262143, 524287, 1048575, 2097151, 4194303, 8388607, 16777215, 33554431, 67108863, 134217727, 268435455, 536870911, 1073741823, 2147483647, 1073741823, 8589934591, 17179869183, 34359738367, 68719476735, 137438953471] [(0, 0), (1, 0), (2, 0), (3, 0), (4, 0), (5, 0), (6, 0), (7, 0), (8, 0), (9, 0), (10, 0), (11, 0), (12, 0), (13, 0), (14, 0), (15, 0), (16, 0), (17, 1), (18, 0), (19, 0), (20, 0), (21, 1), (22, 0), (23, 0), (24, 0), (25, 0), (26, 1), (27, 0), (28, 0), (29, 0), (30, 0), (32, 0), (31, 1), (33, 1), (34, 0), (35, 0), (36, 0), (37, 0)] [] hs mixed (by kernel_rfl) (by kernel_rfl) (by kernel_rfl) (by kernel_rfl) (by kernel_rfl) ?_))
      | (refine JX_done (fun W hs => ?_))
      | (apply JD_done))
    refine J_leave Try.func6 rfl (.tmp rfl .nil) ⟨congrArg Value.bool (decide_eq_true (by omega)), hs.frm.ext⟩
  · repeat' (first
      | ((apply al_none (t := 15); refine JL_o (OpR_callF en11 rfl (wakes_r _)) rfl rfl ?_; rintro _ _ ⟨rfl, hE⟩; have hs := hs.ext hE))
      | ((apply al_call 12; refine JL_o (by exact OpR_callF en12 rfl (own_r _ a n c es (h.st hs))) rfl rfl ?_; rintro _ _ ⟨rs, a1, c1, rfl, hf⟩; rw [← hEd] at hf ⊢; have hs := hs.fresh hf; (try simp only [List.cons_append, List.nil_append] at hs)))
      | ((apply al_call 28; refine JL_o (by exact OpR_callF en28 rfl (put_bad _ a1 E.length c1 E a2 q c2 tt v (slOwn (rs := rs) hs (by repeat (first | exact List.Mem.head _ | apply List.Mem.tail)) (by repeat (first | exact List.Mem.head _ | apply List.Mem.tail))) (by omega) (mcut.st hs) hv hp)) rfl rfl ?_; rintro _ _ ⟨rfl, hE⟩; have hs := hs.ext hE; (try simp only [List.cons_append, List.nil_append] at hs)))
      | (apply JL_nil)
      | ((apply JL_pure); (first
      | (apply as_slice; exact OpR_slice (kl := .i64) (kh := .i64) (km := .i64) (a' := a2) (m := c2) (h := min (n2 : Int) 14) rfl (.inl ⟨rfl, rfl⟩) (.inr ⟨_, rfl, rfl⟩) (.inl ⟨rfl, rfl⟩) (by omega) (by omega) (by omega) (by omega) (by split; rfl; exact addr0 _) (by rw [show (min (n2 : Int) 14 - 0).toNat = q by omega, Int.sub_zero, Int.toNat_natCast]; exact is_rfl))
      | (apply as_move; exact OpR_move rfl is_rfl)
      | (apply as_assign; exact OpR_assign rfl is_rfl)
      | (apply as_fieldAddr; exact OpR_fieldAddr0 rfl rfl is_rfl)
      | (apply as_load; first | exact OpR_load' hs rfl rfl is_rfl | exact OpR_load_agg' hs rfl is_rfl)
      | (apply as_binOp; exact OpR_ibin rfl rfl rfl is_rfl)
      | (apply as_unOp; exact OpR_not rfl is_rfl)
      | (apply as_b_len; exact OpR_len rfl is_rfl)
      | (apply as_extract; exact OpR_extract rfl rfl is_rfl)
      | (apply as_b_min; exact OpR_min rfl rfl is_rfl)); first | (exact rfl; exact rfl) | exact rfl)
      | (apply J_seq)
      | (apply J_region)
      | (apply J_skip)
      | (apply al_none (t := 3); refine JL_o (by apply as_box; exact OpR_box' hs rfl) rfl rfl ?_; rintro _ _ ⟨b3, rfl, hb3, hs, hE⟩)
      | (apply al_none (t := 7); refine JL_o (by apply as_alloc; exact OpR_alloc' hs) rfl rfl ?_; rintro _ _ ⟨b7, rfl, hb7, hs, hE⟩)
      | (apply al_none (t := 8); refine JL_o (by apply as_alloc; exact OpR_alloc' hs) rfl rfl ?_; rintro _ _ ⟨b8, rfl, hb8, hs, hE⟩)
      | (apply al_unit; refine JL_u (by apply as_store; exact OpR_store' hs rfl rfl rfl) rfl ?_; rintro _ _ ⟨hs, hF⟩)
      | (apply aj_cond; first | refine J_dec_t rfl ob ?_ | refine J_cond_f rfl gb ?_))
    refine J_leave Try.func6 rfl (.tmp rfl .nil) ⟨congrArg Value.bool (decide_eq_true rfl), hs.frm.ext⟩
end Go.Eng
