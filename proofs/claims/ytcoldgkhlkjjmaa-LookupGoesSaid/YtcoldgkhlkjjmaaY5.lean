/- The texts L31, L32, L33, L34, L35, joined. -/
import Derived.Test.YtcoldgkhlkjjmaaY3
/- Lookups: copies; what Drop leaves. -/
namespace Go.Eng
open Go.Proofs
set_option linter.unusedSimpArgs false
set_option linter.unusedVariables false
theorem allF_le (es : List Ent) : (allF es).length ≤ 4000 := by
  unfold allF
  by_cases h : checkB es = true
  · rw [if_pos h]; exact allM_le h
  · rw [if_neg h]; simp
abbrev gone : Ent := (2, [], 0)
/-- A place stays for other types, where an entry is dropped. -/
theorem placeG_drop {es : List Ent} {t : List Int} {h : Int} {p : Nat} {x : Ent} (hx : es[p]? = some x) (hx1 : x.1 = 1) (hxt : x.2.1 ≠ t) : ∀ (f k : Nat), placeG (es.set p gone) t h f k = placeG es t h f k
  | 0, k => rfl
  | f + 1, k => by
    unfold placeG
    rw [List.length_set]
    by_cases c : probeN h es.length k = p
    · rw [c, getD_set_eq (List.getElem?_eq_some_iff.1 hx).1, getD_ent hx]
      rw [if_neg (show ¬ gone.1 = 0 by decide), if_neg (fun z => absurd z.1 (by decide)), if_neg (by omega), if_neg (fun z => hxt z.2)]
      exact placeG_drop hx hx1 hxt f (k + 1)
    · rw [getD_set_ne c, placeG_drop hx hx1 hxt f (k + 1)]
theorem filter_drop {es : List Ent} {p : Nat} {x : Ent} (hx : es[p]? = some x) (hx1 : x.1 = 1) : (es.filter stands).Perm (x :: (es.set p gone).filter stands) := by
  have hq := (List.getElem?_eq_some_iff.1 hx).1
  have h1 : es = es.take p ++ x :: es.drop (p + 1) := by
    conv => lhs; rw [← List.take_append_drop p es, List.drop_eq_getElem_cons hq, (List.getElem?_eq_some_iff.1 hx).2]
  have h2 : es.set p gone = es.take p ++ gone :: es.drop (p + 1) := by
    rw [List.set_eq_take_append_cons_drop, if_pos hq]
  rw [h2]
  conv => lhs; rw [h1]
  rw [List.filter_append, List.filter_append, List.filter_cons_of_pos (by simp [stands, hx1]), List.filter_cons_of_neg (by decide)]
  exact List.perm_middle
theorem cnt_set {es : List Ent} {p : Nat} {x y : Ent} (hx : es[p]? = some x) (s : Int) : cnt (es.set p y) s + (if x.1 = s then 1 else 0) = cnt es s + (if y.1 = s then 1 else 0) := by
  have hq := (List.getElem?_eq_some_iff.1 hx).1
  have h1 : es = es.take p ++ x :: es.drop (p + 1) := by
    conv => lhs; rw [← List.take_append_drop p es, List.drop_eq_getElem_cons hq, (List.getElem?_eq_some_iff.1 hx).2]
  have h2 : es.set p y = es.take p ++ y :: es.drop (p + 1) := by
    rw [List.set_eq_take_append_cons_drop, if_pos hq]
  unfold cnt
  rw [h2]
  conv => rhs; rw [h1]
  rw [List.filter_append, List.filter_append, List.length_append, List.length_append, List.filter_cons, List.filter_cons]
  by_cases c1 : x.1 = s <;> by_cases c2 : y.1 = s <;> simp [c1, c2] <;> omega
theorem check_drop {es : List Ent} (hc : checkB es = true) {p : Nat} {x : Ent} (hx : es[p]? = some x) (hx1 : x.1 = 1) : checkB (es.set p gone) = true := by
  have hp := (List.getElem?_eq_some_iff.1 hx).1
  have hc' := hc
  unfold checkB baseB at hc'
  simp only [Bool.and_eq_true, decide_eq_true_eq] at hc'
  obtain ⟨⟨h1, h2, h3, h4, h5⟩, h6⟩ := hc'
  have htk : taken (es.set p gone) = taken es := by
    have a1 := cnt_set (y := gone) hx 1
    have a2 := cnt_set (y := gone) hx 2
    rw [if_pos hx1, if_neg (by decide)] at a1
    rw [if_neg (by omega), if_pos rfl] at a2
    unfold taken; omega
  have hst : stOk (es.set p gone) = true := by
    unfold stOk at h1 ⊢
    rw [List.all_eq_true] at h1 ⊢
    intro y hy
    rcases List.mem_or_eq_of_mem_set hy with hm | rfl
    · exact h1 y hm
    · decide
  unfold checkB baseB
  rw [hst, htk, List.length_set, decide_eq_true h2, decide_eq_true h3, decide_eq_true h4, decide_eq_true h5, Bool.true_and, Bool.true_and, Bool.true_and, Bool.true_and, Bool.true_and, okK_iff]
  intro i hi
  by_cases c : i = p
  · subst c
    unfold slotOk
    rw [getD_set_eq hi, if_neg (show ¬ gone.1 = 1 by decide)]
    decide
  · have hy : es[i]? = some es[i] := List.getElem?_eq_getElem hi
    obtain ⟨y, hyd⟩ : ∃ y, y = es[i] := ⟨_, rfl⟩
    rw [← hyd] at hy
    have hs := (okK_iff _ _).1 h6 i hi
    unfold slotOk at hs ⊢
    rw [getD_set_ne c, getD_ent hy]
    rw [getD_ent hy] at hs
    by_cases c1 : y.1 = 1
    · rw [if_pos c1] at hs ⊢
      simp only [Bool.and_eq_true, decide_eq_true_eq] at hs ⊢
      refine ⟨hs.1, hs.2.1, ?_⟩
      have hne : x.2.1 ≠ y.2.1 := fun e => by
        have hxp := ((check_slot hc hx).1 hx1).2.2
        rw [e] at hxp
        have := hs.2.2.symm.trans hxp
        omega
      unfold placeM
      rw [List.length_set, placeG_drop hx hx1 hne]
      exact hs.2.2
    · rw [if_neg c1] at hs ⊢
      exact hs
theorem all_drop {es : List Ent} (hc : checkB es = true) {p : Nat} {x : Ent} (hx : es[p]? = some x) (hx1 : x.1 = 1) : allM (es.set p gone) = withoutM (allM es) x.2.1 := by
  have hp := filter_drop hx hx1
  have hd := check_distinct hc
  have hd2 : distinctE (x :: (es.set p gone).filter stands) := (hp.pairwise_iff (fun h => Ne.symm h)).1 hd
  unfold distinctE at hd2
  rw [List.pairwise_cons] at hd2
  refine (allM_uniq hd2.2 ?_ ?_).symm
  · unfold withoutM
    refine (((allM_perm es).trans hp).filter _).trans ?_
    rw [List.filter_cons_of_neg (by simp), List.filter_eq_self.2 (fun y hy => by have := hd2.1 y hy; simpa using this.symm)]
  · exact (allM_sorted es).sublist List.filter_sublist
end Go.Eng
/- Lookups: copies of one's own. -/
namespace Go.Eng
open Go.Proofs
set_option linter.unusedSimpArgs false
set_option linter.unusedVariables false
attribute [local irreducible] Hold J JL JD JX JXat OpR OpG Ret RetV Is Blk Row MapC
set_option maxRecDepth 100000
set_option maxHeartbeats 1000000
theorem cloneE_r (w : World) (a : Option Addr) (n c : Nat) (rs : List REnt) (h : Sl dREnt All w a n c rs) (hn : n ≤ 1048576) :
    Ret Try.prog 61 #[.slice a n c] w fun v w' => ∃ a' c', v = .slice a' n c' ∧ Fresh w w' [TabRow a' n c' rs] := by
  refine Ret_of (l := [_]) Try.func61 rfl Try.ntmps61 (by simp) ?_
  have hs := St.init w
  obtain ⟨hsrc, hpl, _⟩ := h.srcF
  have hl := h.len
  cases a with
  | none =>
    have hn0 := hsrc.2.1 rfl
    subst hn0
    have : rs = [] := List.eq_nil_of_length_eq_zero (by omega)
    subst this
    repeat' (first
      | (apply JL_nil)
      | ((apply JL_pure); (first
      | (apply as_move; exact OpR_move rfl is_rfl)
      | (apply as_assign; exact OpR_assign rfl is_rfl)
      | (apply as_binOp; exact OpR_eqNil rfl rfl is_rfl)); first | (exact rfl; exact rfl) | exact rfl)
      | (apply J_seq)
      | (apply J_region)
      | (apply aj_cond; refine J_cond_t rfl gb ?_))
    have hs := hs.nilRow 39 3
    refine J_leave Try.func61 rfl (.tmp rfl .nil) ⟨_, _, rfl, hs.out (List.Sublist.refl _)⟩
  | some ad =>
    repeat' (first
      | ((apply al_none; refine JL_o (by apply as_buildSlice; exact OpR_buildSlice hs rfl (by omega) rfl) rfl rfl ?_; rintro _ _ ⟨b, rfl, hb, hs, hE⟩; have hs := hs.toRow 0 0 0 3 (xs := []) (Nat.le_refl _) (by unfold maxLen; omega) (by simp) rfl))
      | ((apply al_none; refine JL_o (by apply as_b_append; exact OpR_append hs rfl rfl (Src.st hsrc hs) hpl rfl (by omega) (by unfold maxLen; omega)) rfl rfl ?_; rintro _ _ ⟨a2, c2, rfl, hs, hF, hnil⟩; rw [Nat.zero_add] at hs ⊢; rw [List.nil_append] at hs))
      | (apply JL_nil)
      | ((apply JL_pure); (first
      | (apply as_move; exact OpR_move rfl is_rfl)
      | (apply as_assign; exact OpR_assign rfl is_rfl)
      | (apply as_binOp; exact OpR_eqNil rfl rfl is_rfl)); first | (exact rfl; exact rfl) | exact rfl)
      | (apply J_seq)
      | (apply J_region)
      | (apply J_skip)
      | (apply aj_cond; refine J_cond_f rfl gb ?_))
    refine J_leave Try.func61 rfl (.tmp rfl .nil) ⟨_, _, rfl, hs.out (.cons_cons _ (List.nil_sublist _))⟩
theorem clone_r (w : World) (a : Option Addr) (n c : Nat) (es : List Ent) (h : Sl dEnt All w a n c es) (hn : n ≤ 1048576) (ht : ∀ x ∈ es, x.2.1.length ≤ 4000000000) :
    Ret Try.prog 22 #[.agg #[.slice a n c]] w fun v w' => ∃ (rs' : List REnt) (a' : Option Addr) (c' : Nat), v = .agg #[.slice a' n c'] ∧ Fresh w w' [TabRow a' n c' rs', Own rs' es] := by
  refine Ret_of (l := [_]) Try.func22 rfl Try.ntmps22 (by simp) ?_
  have hs := St.init w
  obtain ⟨rs, hr, hm⟩ := Sl.raw (D := rawEnt) h
  have hl := hr.len
  have hle := h.len
  have hok := sl_entOk h
  repeat' (first
    | ((apply al_call 61; refine JL_o (by exact OpR_callF en61 rfl (cloneE_r _ a n c rs (hr.st hs) hn)) rfl rfl ?_; rintro _ _ ⟨a1, c1, rfl, hf⟩; have hs := hs.fresh hf; (try simp only [List.cons_append, List.nil_append] at hs)))
    | (apply JL_nil)
    | ((apply JL_pure); (first
      | (apply as_move; exact OpR_move rfl is_rfl)
      | (apply as_fieldAddr; exact OpR_fieldAddr0 rfl rfl is_rfl)
      | (apply as_load; exact OpR_load' hs rfl rfl is_rfl)
      | (apply as_b_len; exact OpR_len rfl is_rfl)
      | (apply as_build; exact OpR_build rfl (by (simp only [bld, placesOf, splice, Value.cells, List.take_succ_cons, List.take_zero, List.drop_succ_cons, List.drop_zero, List.cons_append, List.nil_append, List.length_cons, List.length_nil, List.getElem?_cons_zero, List.getElem?_cons_succ, Option.map_some, List.append_nil, Nat.reduceAdd, Nat.reduceMul, Nat.zero_add, Nat.reduceLeDiff, and_self, if_true, List.toList_toArray, Nat.le_refl, Nat.zero_mul, Nat.one_mul]; first | done | rfl)) is_rfl)); first | (exact rfl; exact rfl) | exact rfl)
    | (apply J_seq)
    | (apply J_region)
    | (apply J_block)
    | (apply al_none (t := 1); refine JL_o (by apply as_box; exact OpR_box' hs rfl) rfl rfl ?_; rintro _ _ ⟨b1, rfl, hb1, hs, hE⟩)
    | (apply al_none (t := 2); refine JL_o (by apply as_alloc; exact OpR_alloc' hs) rfl rfl ?_; rintro _ _ ⟨b2, rfl, hb2, hs, hE⟩)
    | (apply al_none (t := 3); refine JL_o (by apply as_alloc; exact OpR_alloc' hs) rfl rfl ?_; rintro _ _ ⟨b3, rfl, hb3, hs, hE⟩)
    | (apply al_unit; refine JL_u (by apply as_store; exact OpR_store' hs rfl rfl rfl) rfl ?_; rintro _ _ ⟨hs, hF⟩))
  have hs := hs.nilOwn
  refine J_loopK (α := Nat × List REnt) [(2, _), (3, _), (11, _), (12, _)] (fun g => [(13, .int .i64 g.1)]) (fun g w' => St w NoF w' [TabRow a1 n c1 (g.2 ++ rs.drop g.1), Own g.2 (es.take g.1), Blk b3 (.cells #[.slice a1 n c1] 24 (0, 0)), Blk b2 (.cells #[.slice none 0 0] 24 (0, 0))] ∧ g.2.length = g.1 ∧ g.1 ≤ n) (fun g => n - g.1) (0, []) ⟨hs.sel [2, 0, 1, 3] (by decide), rfl, Nat.zero_le _⟩ (by repeat' (first | exact trivial | exact rfl | apply And.intro)) ?_
  rintro ⟨k, rs3⟩ w2 ⟨hs1, hk3, hk⟩ ih
  dsimp only at hs1 hk3 hk ih ⊢
  by_cases hlt : k < n
  · obtain ⟨b, o, rfl⟩ := (hs1.row a1 n c1).some (by omega)
    have hs : St w NoF w2 [_, _, _, _] := hs1
    have hx : es[k]? = some (es[k]'(by omega)) := List.getElem?_eq_getElem (by omega)
    obtain ⟨x, hxd⟩ : ∃ x, x = es[k]'(by omega) := ⟨_, rfl⟩
    rw [← hxd] at hx
    obtain ⟨r, hrx, hrel⟩ := hm.get hx
    obtain ⟨ok1, ok2, ok3⟩ := hok x (List.mem_of_getElem? hx)
    have ok4 := ht x (List.mem_of_getElem? hx)
    have e1 : r.1 = x.1 := hrel.1
    have e3 : r.2.2 = x.2.2 := hrel.2.2
    have m2 : Sl (tInt .u64) All w r.2.1.1 r.2.1.2.1 r.2.1.2.2 x.2.1 := hrel.2.1
    have mlen := m2.len
    have hcur : (rs3 ++ rs.drop k)[k]? = some r := by rw [List.getElem?_append_right (by omega), hk3, Nat.sub_self, List.getElem?_drop, Nat.add_zero]; exact hrx
    have hld : ∀ (q : Nat) (u : Value), (cREnt r)[q]? = some u → (encL cREnt (rs3 ++ rs.drop k))[k * 3 + q]? = some u := fun q u hq => by
      have hq3 : q < 3 := (List.getElem?_eq_some_iff.1 hq).1
      rw [show (encL cREnt (rs3 ++ rs.drop k))[k * 3 + q]? = (cREnt r)[q]? from encL_get (d := dREnt) (rs3 ++ rs.drop k) k q r hcur hq3]; exact hq
    have htk : es.take (k + 1) = es.take k ++ [x] := by rw [List.take_add_one, hx]; rfl
    repeat' (first
      | ((apply ax_c; apply JX_cF 23; exact rfl; (intro W X hN hs; exact OpR_callF en23 rfl (cloneI_r _ r.2.1.1 r.2.1.2.1 r.2.1.2.2 x.2.1 (m2.st hs) (by omega))); (rintro _ _ _ _ ⟨a3, c3, rfl, hf⟩; first | exact hE | exact Fresh.ext hf); rintro W X _ _ hN hs ⟨a3, c3, rfl, hf⟩; have hs := hs.fresh hf; (try simp only [List.cons_append, List.nil_append] at hs); refine JX.at hs ?_))
      | ((apply al_unit; have hset := (encL_setT (rs3 ++ rs.drop k) k r (a3, r.2.1.2.1, c3) hcur).trans (congrArg (encL cREnt) (set_mid rs3 rs k (r.1, (a3, r.2.1.2.1, c3), r.2.2) hk3 (by omega))); refine JL_u (by apply as_store; exact OpR_storeN (b := b) (o := o) (off := k * 3 + 1) (n := n) (c := c1) (vs := [.slice a3 r.2.1.2.1 c3]) hs rfl rfl rfl rfl (by simp [Value.oneCell']) (by show k * 3 + 1 + 1 ≤ n * 3; omega)) rfl ?_; rintro _ _ ⟨hs, hF⟩; rw [hset] at hs))
      | (apply JL_nil)
      | ((first | (apply JL_pure) | (apply JX_f; exact rfl; intro W X hs)); (first
      | (apply as_load; first | exact OpR_load' hs rfl rfl is_rfl | exact OpR_load_agg' hs rfl is_rfl | exact OpR_loadN (b := b) (o := o) (off := k * 3) (n := n) (c := c1) hs rfl rfl hld is_rfl)
      | (apply as_move; exact OpR_move rfl is_rfl)
      | (apply as_assign; exact OpR_assign rfl is_rfl)
      | (apply as_fieldAddr; first | exact OpR_fieldAddr0 rfl rfl is_rfl | exact OpR_fieldAddr rfl rfl is_rfl)
      | (apply as_add; exact OpR_addn rfl rfl (by omega) (by first | (simp only [Int.reduceAdd]; exact rfl) | exact rfl) is_rfl)
      | (apply as_binOp; exact OpR_ibin rfl rfl rfl is_rfl)
      | (apply as_indexAddr; exact OpR_indexAddr rfl rfl (by omega) (by omega) is_rfl)); first | (exact rfl; exact rfl) | exact rfl)
      | (apply J_seq)
      | (apply J_region)
      | (apply J_block)
      | (apply J_inBlock)
      | (apply J_skip)
      | (apply al_none (t := 5); refine JL_o (by apply as_alloc; exact OpR_alloc' hs) rfl rfl ?_; rintro _ _ ⟨b5, rfl, hb5, hs, hE⟩)
      | (apply al_unit; refine JL_u (by apply as_store; exact OpR_store' hs rfl rfl rfl) rfl ?_; rintro _ _ ⟨hs, hF⟩)
      | (apply aj_cond; refine J_dec_t rfl ob ?_)
      | (apply aj_draw; (refine J_drawX (id := 5) [0, 1, 0, 0, 8, 24, 63, 127, 255] [(0, 0), (1, 0), (2, 0), (3, 0), (4, 0), (5, 1), (6, 0), (7, 0)] [8] hs mixed (by kernel_rfl) (by kernel_rfl) (by kernel_rfl) (by kernel_rfl) (by kernel_rfl) ?_))
      | (refine JX_done (fun W hs => ?_))
      | (apply JD_tail; case' hos => (simp only [List.map_cons, List.map_nil, List.getElem?_toArray, List.getElem?_cons_succ, List.getElem?_cons_zero]; repeat' (first | exact ms_nil | apply ms_cons))))
    have hs : St w NoF _ [Row a3 r.2.1.2.1 c3 41 1 (u64s' x.2.1), Own rs3 (es.take k), TabRow (some ⟨b, o, none⟩) n c1 (rs3 ++ [(r.1, (a3, r.2.1.2.1, c3), r.2.2)] ++ rs.drop (k + 1)), Blk b3 _, Blk b2 _] := hs.sel [0, 3, 2, 4, 5] (by decide)
    have hs := St.pushOwn hs mlen.symm r.1 r.2.2 (by rw [e1]; exact ok1) (by rw [e3]; exact ok2) ok3
    have hx3 : (r.1, x.2.1, r.2.2) = x := by rw [e1, e3]
    rw [hx3, ← htk] at hs
    refine ih (k + 1, rs3 ++ [(r.1, (a3, r.2.1.2.1, c3), r.2.2)]) _ _ ⟨hs.sel [1, 0, 2, 3] (by decide), by simp [hk3], by dsimp only; omega⟩ (by dsimp only; omega) (by repeat' (first | exact trivial | exact rfl | apply And.intro))
  · have hkn : k = n := by omega
    rw [hkn, List.drop_of_length_le (by omega), List.append_nil, List.take_of_length_le (by omega)] at hs1
    have hs : St w NoF w2 [_, _, _, _] := hs1
    repeat' (first
      | (apply JL_nil)
      | ((apply JL_pure); (first
      | (apply as_load; exact OpR_load_agg' hs rfl is_rfl)
      | (apply as_binOp; exact OpR_ibin rfl rfl rfl is_rfl)); first | (exact rfl; exact rfl) | exact rfl)
      | (apply J_seq)
      | (apply J_region)
      | (apply aj_exit; refine J_exit rfl ?_)
      | (apply al_unit; refine JL_u (by apply as_store; exact OpR_store' hs rfl rfl rfl) rfl ?_; rintro _ _ ⟨hs, hF⟩)
      | (apply aj_cond; refine J_dec_f rfl ob ?_))
    refine J_leave Try.func22 rfl (.agg' hs rfl rfl .nil) ⟨rs3, a1, c1, rfl, hs.out (.cons_cons _ (.cons_cons _ (List.nil_sublist _)))⟩
end Go.Eng
/- Lookups: Drop. -/
namespace Go.Eng
open Go.Proofs
set_option linter.unusedSimpArgs false
set_option linter.unusedVariables false
theorem St.ownSet {w0 w : World} {F : Nat → Prop} {L : List HP} {rs : List REnt} {es : List Ent} (h : St w0 F w (Own rs es :: L)) (p : Nat) : St w0 F w (Own (rs.set p (2, (none, 0, 0), 0)) (es.set p gone) :: L) := by
  refine h.conv (fun k hk => ?_) (fun hh => ?_)
  · obtain ⟨r, hr, hk⟩ := hk
    rcases List.mem_or_eq_of_mem_set hr with hm | rfl
    · exact ⟨r, hm, hk⟩
    · simp [afoot] at hk
  · have hh : OwnV w rs es := hh
    refine ⟨by rw [List.length_set, List.length_set]; exact hh.1, fun i r x hr hx => ?_⟩
    rw [List.getElem?_set] at hr hx
    by_cases c : p = i
    · subst c
      rw [if_pos rfl] at hr hx
      have hl := hh.1
      by_cases c2 : p < rs.length
      · rw [if_pos c2] at hr
        rw [if_pos (by omega)] at hx
        cases hr; cases hx
        exact ⟨⟨rfl, rfl, rfl, by unfold inK; decide, by unfold inK; decide⟩, rowV_nil w _ _, fun v hv => by cases hv⟩
      · rw [if_neg c2] at hr; cases hr
    · rw [if_neg c] at hr hx
      exact hh.2 i r x hr hx
def dropE (es : List Ent) (t : List Int) : Int := if checkB es then (if placeM es t < 0 then 4 else 0) else 170
attribute [local irreducible] Hold J JL JD JX JXat OpR OpG Ret RetV Is Blk Row MapC
set_option maxRecDepth 100000
set_option maxHeartbeats 1000000
theorem drop_r (w : World) (a : Option Addr) (n c : Nat) (es : List Ent) (a2 : Option Addr) (n2 c2 : Nat) (t : List Int) (h : Sl dEnt All w a n c es) (hn : n ≤ 1048576) (h2 : Sl (tInt .u64) All w a2 n2 c2 t) :
    Ret Try.prog 27 #[.agg #[.slice a n c], .slice a2 n2 c2] w fun u w' => (dropE es t ≠ 0 ∧ u = .tuple #[.agg #[.slice none 0 0], .int .i64 (dropE es t)] ∧ Ext w w') ∨
      (dropE es t = 0 ∧ ∃ (p : Nat) (x : Ent) (rs' : List REnt) (a' : Option Addr) (c' : Nat), (es[p]? = some x ∧ x.1 = 1 ∧ x.2.1 = t) ∧ u = .tuple #[.agg #[.slice a' n c'], .int .i64 0] ∧ Fresh w w' [TabRow a' n c' rs', Own rs' (es.set p gone)]) := by
  refine Ret_of (l := [_, _]) Try.func27 rfl Try.ntmps27 (by simp) ?_
  have hs := St.init w
  unfold dropE
  by_cases hc : checkB es = true
  · rw [if_pos hc]
    rcases placeM_cases es t with hp | ⟨p, xp, hxp, hp, hxp1, hxp2⟩
    · rw [hp, if_pos (by decide)]
      repeat' (first
        | ((apply al_call 16; refine JL_o (by exact OpR_callF en16 rfl (lcheck_r _ a n c es (h.st hs) hn)) rfl rfl ?_; rintro _ _ ⟨rfl, hE⟩; rw [if_pos hc]; have hs := hs.ext hE; (try simp only [List.cons_append, List.nil_append] at hs)))
        | ((apply al_call 60; refine JL_o (by exact OpR_callF en60 rfl (place_r _ a n c es a2 n2 c2 t (h.st hs) hn (h2.st hs))) rfl rfl ?_; rintro _ _ ⟨rfl, hE⟩; rw [hp]; have hs := hs.ext hE; (try simp only [List.cons_append, List.nil_append] at hs)))
        | (apply JL_nil)
        | ((apply JL_pure); (first
      | (apply as_move; exact OpR_move rfl is_rfl)
      | (apply as_assign; exact OpR_assign rfl is_rfl)
      | (apply as_load; exact OpR_load_agg' hs rfl is_rfl)
      | (apply as_binOp; exact OpR_ibin rfl rfl rfl is_rfl)
      | (apply as_build; exact OpR_build rfl (by (simp only [bld, placesOf, splice, Value.cells, List.take_succ_cons, List.take_zero, List.drop_succ_cons, List.drop_zero, List.cons_append, List.nil_append, List.length_cons, List.length_nil, List.getElem?_cons_zero, List.getElem?_cons_succ, Option.map_some, List.append_nil, Nat.reduceAdd, Nat.reduceMul, Nat.zero_add, Nat.reduceLeDiff, and_self, if_true, List.toList_toArray, Nat.le_refl, Nat.zero_mul, Nat.one_mul]; first | done | rfl)) is_rfl)); first | (exact rfl; exact rfl) | exact rfl)
        | (apply J_seq)
        | (apply J_region)
        | (apply J_skip)
        | (apply al_none (t := 2); refine JL_o (by apply as_box; exact OpR_box' hs rfl) rfl rfl ?_; rintro _ _ ⟨b2, rfl, hb2, hs, hE⟩)
        | (apply al_none (t := 4); refine JL_o (by apply as_alloc; exact OpR_alloc' hs) rfl rfl ?_; rintro _ _ ⟨b4, rfl, hb4, hs, hE⟩)
        | (apply al_unit; refine JL_u (by apply as_store; exact OpR_store' hs rfl rfl rfl) rfl ?_; rintro _ _ ⟨hs, hF⟩)
        | (apply aj_cond; first | refine J_dec_t rfl ob ?_ | refine J_dec_f rfl ob ?_))
      refine J_leave Try.func27 rfl (.agg' hs rfl rfl (.tmp rfl .nil)) (.inl ⟨by decide, rfl, hs.frm.ext⟩)
    rw [hp, if_neg (by omega)]
    have ht := fun x hx => Nat.le_trans (check_len hc (x := x) hx) (by decide : 12 ≤ 4000000000)
    obtain ⟨rs, hr, hm⟩ := Sl.raw (D := rawEnt) h
    have hl := hr.len
    have hle := h.len
    have hok := sl_entOk h
    have hpn : p < n := by rw [← hle]; exact (List.getElem?_eq_some_iff.1 hxp).1
    repeat' (first
      | ((apply al_call 16; refine JL_o (by exact OpR_callF en16 rfl (lcheck_r _ a n c es (h.st hs) hn)) rfl rfl ?_; rintro _ _ ⟨rfl, hE⟩; rw [if_pos hc]; have hs := hs.ext hE; (try simp only [List.cons_append, List.nil_append] at hs)))
      | ((apply al_call 60; refine JL_o (by exact OpR_callF en60 rfl (place_r _ a n c es a2 n2 c2 t (h.st hs) hn (h2.st hs))) rfl rfl ?_; rintro _ _ ⟨rfl, hE⟩; rw [hp]; have hs := hs.ext hE; (try simp only [List.cons_append, List.nil_append] at hs)))
      | ((apply al_call 61; refine JL_o (by exact OpR_callF en61 rfl (cloneE_r _ a n c rs (hr.st hs) hn)) rfl rfl ?_; rintro _ _ ⟨a1, c1, rfl, hf⟩; have hs := hs.fresh hf; (try simp only [List.cons_append, List.nil_append] at hs)))
      | (apply JL_nil)
      | ((apply JL_pure); (first
      | (apply as_move; exact OpR_move rfl is_rfl)
      | (apply as_assign; exact OpR_assign rfl is_rfl)
      | (apply as_fieldAddr; exact OpR_fieldAddr0 rfl rfl is_rfl)
      | (apply as_load; first | exact OpR_load' hs rfl rfl is_rfl | exact OpR_load_agg' hs rfl is_rfl)
      | (apply as_binOp; exact OpR_ibin rfl rfl rfl is_rfl)
      | (apply as_b_len; exact OpR_len rfl is_rfl)
      | (apply as_build; exact OpR_build rfl (by (simp only [bld, placesOf, splice, Value.cells, List.take_succ_cons, List.take_zero, List.drop_succ_cons, List.drop_zero, List.cons_append, List.nil_append, List.length_cons, List.length_nil, List.getElem?_cons_zero, List.getElem?_cons_succ, Option.map_some, List.append_nil, Nat.reduceAdd, Nat.reduceMul, Nat.zero_add, Nat.reduceLeDiff, and_self, if_true, List.toList_toArray, Nat.le_refl, Nat.zero_mul, Nat.one_mul]; first | done | rfl)) is_rfl)); first | (exact rfl; exact rfl) | exact rfl)
      | (apply J_seq)
      | (apply J_region)
      | (apply J_block)
      | (apply J_skip)
      | (apply al_none (t := 2); refine JL_o (by apply as_box; exact OpR_box' hs rfl) rfl rfl ?_; rintro _ _ ⟨b2, rfl, hb2, hs, hE⟩)
      | (apply al_none (t := 4); refine JL_o (by apply as_alloc; exact OpR_alloc' hs) rfl rfl ?_; rintro _ _ ⟨b4, rfl, hb4, hs, hE⟩)
      | (apply al_none (t := 8); refine JL_o (by apply as_alloc; exact OpR_alloc' hs) rfl rfl ?_; rintro _ _ ⟨b8, rfl, hb8, hs, hE⟩)
      | (apply al_unit; refine JL_u (by apply as_store; exact OpR_store' hs rfl rfl rfl) rfl ?_; rintro _ _ ⟨hs, hF⟩)
      | (apply aj_cond; refine J_dec_f rfl ob ?_))
    have hs := hs.nilOwn
    refine J_loopK (α := Nat × List REnt) [(4, _), (7, _), (8, _), (28, _), (29, _)] (fun g => [(30, .int .i64 g.1)]) (fun g w' => St w NoF w' [TabRow a1 n c1 (g.2 ++ rs.drop g.1), Own g.2 (es.take g.1), Blk b8 (.cells #[.slice a1 n c1] 24 (0, 0)), Blk b4 (.cells #[.slice none 0 0] 24 (0, 0))] ∧ g.2.length = g.1 ∧ g.1 ≤ n) (fun g => n - g.1) (0, []) ⟨hs.sel [2, 0, 1, 3] (by decide), rfl, Nat.zero_le _⟩ (by repeat' (first | exact trivial | exact rfl | apply And.intro)) ?_
    rintro ⟨k, rs3⟩ w2 ⟨hs1, hk3, hk⟩ ih
    dsimp only at hs1 hk3 hk ih ⊢
    by_cases hlt : k < n
    · obtain ⟨b, o, rfl⟩ := (hs1.row a1 n c1).some (by omega)
      have hs : St w NoF w2 [_, _, _, _] := hs1
      have hx : es[k]? = some (es[k]'(by omega)) := List.getElem?_eq_getElem (by omega)
      obtain ⟨x, hxd⟩ : ∃ x, x = es[k]'(by omega) := ⟨_, rfl⟩
      rw [← hxd] at hx
      obtain ⟨r, hrx, hrel⟩ := hm.get hx
      obtain ⟨ok1, ok2, ok3⟩ := hok x (List.mem_of_getElem? hx)
      have ok4 := ht x (List.mem_of_getElem? hx)
      have e1 : r.1 = x.1 := hrel.1
      have e3 : r.2.2 = x.2.2 := hrel.2.2
      have m2 : Sl (tInt .u64) All w r.2.1.1 r.2.1.2.1 r.2.1.2.2 x.2.1 := hrel.2.1
      have mlen := m2.len
      have hcur : (rs3 ++ rs.drop k)[k]? = some r := by rw [List.getElem?_append_right (by omega), hk3, Nat.sub_self, List.getElem?_drop, Nat.add_zero]; exact hrx
      have hld : ∀ (q : Nat) (u : Value), (cREnt r)[q]? = some u → (encL cREnt (rs3 ++ rs.drop k))[k * 3 + q]? = some u := fun q u hq => by
        have hq3 : q < 3 := (List.getElem?_eq_some_iff.1 hq).1
        rw [show (encL cREnt (rs3 ++ rs.drop k))[k * 3 + q]? = (cREnt r)[q]? from encL_get (d := dREnt) (rs3 ++ rs.drop k) k q r hcur hq3]; exact hq
      have htk : es.take (k + 1) = es.take k ++ [x] := by rw [List.take_add_one, hx]; rfl
      repeat' (first
        | ((apply ax_c; apply JX_cF 23; exact rfl; (intro W X hN hs; exact OpR_callF en23 rfl (cloneI_r _ r.2.1.1 r.2.1.2.1 r.2.1.2.2 x.2.1 (m2.st hs) (by omega))); (rintro _ _ _ _ ⟨a3, c3, rfl, hf⟩; first | exact hE | exact Fresh.ext hf); rintro W X _ _ hN hs ⟨a3, c3, rfl, hf⟩; have hs := hs.fresh hf; (try simp only [List.cons_append, List.nil_append] at hs); refine JX.at hs ?_))
        | ((apply al_unit; have hset := (encL_setT (rs3 ++ rs.drop k) k r (a3, r.2.1.2.1, c3) hcur).trans (congrArg (encL cREnt) (set_mid rs3 rs k (r.1, (a3, r.2.1.2.1, c3), r.2.2) hk3 (by omega))); refine JL_u (by apply as_store; exact OpR_storeN (b := b) (o := o) (off := k * 3 + 1) (n := n) (c := c1) (vs := [.slice a3 r.2.1.2.1 c3]) hs rfl rfl rfl rfl (by simp [Value.oneCell']) (by show k * 3 + 1 + 1 ≤ n * 3; omega)) rfl ?_; rintro _ _ ⟨hs, hF⟩; rw [hset] at hs))
        | (apply JL_nil)
        | ((first | (apply JL_pure) | (apply JX_f; exact rfl; intro W X hs)); (first
      | (apply as_load; first | exact OpR_load' hs rfl rfl is_rfl | exact OpR_load_agg' hs rfl is_rfl | exact OpR_loadN (b := b) (o := o) (off := k * 3) (n := n) (c := c1) hs rfl rfl hld is_rfl)
      | (apply as_move; exact OpR_move rfl is_rfl)
      | (apply as_assign; exact OpR_assign rfl is_rfl)
      | (apply as_fieldAddr; first | exact OpR_fieldAddr0 rfl rfl is_rfl | exact OpR_fieldAddr rfl rfl is_rfl)
      | (apply as_add; exact OpR_addn rfl rfl (by omega) (by first | (simp only [Int.reduceAdd]; exact rfl) | exact rfl) is_rfl)
      | (apply as_binOp; exact OpR_ibin rfl rfl rfl is_rfl)
      | (apply as_indexAddr; exact OpR_indexAddr rfl rfl (by omega) (by omega) is_rfl)); first | (exact rfl; exact rfl) | exact rfl)
        | (apply J_seq)
        | (apply J_region)
        | (apply J_block)
        | (apply J_inBlock)
        | (apply J_skip)
        | (apply al_none (t := 10); refine JL_o (by apply as_alloc; exact OpR_alloc' hs) rfl rfl ?_; rintro _ _ ⟨b10, rfl, hb10, hs, hE⟩)
        | (apply al_unit; refine JL_u (by apply as_store; exact OpR_store' hs rfl rfl rfl) rfl ?_; rintro _ _ ⟨hs, hF⟩)
        | (apply aj_cond; refine J_dec_t rfl ob ?_)
        | (apply aj_draw; (refine J_drawX (id := 11) [0, 1, 0, 0, 8, 24, 63, 127, 255] [(0, 0), (1, 0), (2, 0), (3, 0), (4, 0), (5, 1), (6, 0), (7, 0)] [8] hs mixed (by kernel_rfl) (by kernel_rfl) (by kernel_rfl) (by kernel_rfl) (by kernel_rfl) ?_))
        | (refine JX_done (fun W hs => ?_))
        | (apply JD_tail; case' hos => (simp only [List.map_cons, List.map_nil, List.getElem?_toArray, List.getElem?_cons_succ, List.getElem?_cons_zero]; repeat' (first | exact ms_nil | apply ms_cons))))
      have hs : St w NoF _ [Row a3 r.2.1.2.1 c3 41 1 (u64s' x.2.1), Own rs3 (es.take k), TabRow (some ⟨b, o, none⟩) n c1 (rs3 ++ [(r.1, (a3, r.2.1.2.1, c3), r.2.2)] ++ rs.drop (k + 1)), Blk b8 _, Blk b4 _] := hs.sel [0, 3, 2, 4, 5] (by decide)
      have hs := St.pushOwn hs mlen.symm r.1 r.2.2 (by rw [e1]; exact ok1) (by rw [e3]; exact ok2) ok3
      have hx3 : (r.1, x.2.1, r.2.2) = x := by rw [e1, e3]
      rw [hx3, ← htk] at hs
      refine ih (k + 1, rs3 ++ [(r.1, (a3, r.2.1.2.1, c3), r.2.2)]) _ _ ⟨hs.sel [1, 0, 2, 3] (by decide), by simp [hk3], by dsimp only; omega⟩ (by dsimp only; omega) (by repeat' (first | exact trivial | exact rfl | apply And.intro))
    · have hkn : k = n := by omega
      rw [hkn, List.drop_of_length_le (by omega), List.append_nil, List.take_of_length_le (by omega)] at hs1
      obtain ⟨b, o, rfl⟩ := (hs1.row a1 n c1).some (by omega)
      have hs : St w NoF w2 [_, _, _, _] := hs1
      have hset : encL cREnt (rs3.set p (2, (none, 0, 0), 0)) = splice (encL cREnt rs3) (p * 3) (cREnt (2, (none, 0, 0), 0)) := encL_set (d := dREnt) rs3 p _ (by omega)
      repeat' (first
        | ((apply al_unit; refine JL_u (by apply as_store; exact OpR_storeN (b := b) (o := o) (off := p * 3) (n := n) (c := c1) (vs := cREnt (2, (none, 0, 0), 0)) hs rfl rfl rfl rfl (fun u hu => by simp only [List.mem_cons, List.not_mem_nil, or_false] at hu; rcases hu with rfl | rfl | rfl <;> rfl) (by show p * 3 + 3 ≤ n * 3; omega)) rfl ?_; rintro _ _ ⟨hs, hF⟩; rw [← hset] at hs))
        | (apply JL_nil)
        | ((apply JL_pure); (first
      | (apply as_load; first | exact OpR_load' hs rfl rfl is_rfl | exact OpR_load_agg' hs rfl is_rfl)
      | (apply as_move; exact OpR_move rfl is_rfl)
      | (apply as_assign; exact OpR_assign rfl is_rfl)
      | (apply as_fieldAddr; exact OpR_fieldAddr0 rfl rfl is_rfl)
      | (apply as_binOp; exact OpR_ibin rfl rfl rfl is_rfl)
      | (apply as_indexAddr; exact OpR_indexAddr rfl rfl (by omega) (by omega) is_rfl)
      | (apply as_build; exact OpR_build rfl (by (simp only [bld, placesOf, splice, Value.cells, List.take_succ_cons, List.take_zero, List.drop_succ_cons, List.drop_zero, List.cons_append, List.nil_append, List.length_cons, List.length_nil, List.getElem?_cons_zero, List.getElem?_cons_succ, Option.map_some, List.append_nil, Nat.reduceAdd, Nat.reduceMul, Nat.zero_add, Nat.reduceLeDiff, and_self, if_true, List.toList_toArray, Nat.le_refl, Nat.zero_mul, Nat.one_mul]; first | done | rfl)) is_rfl)); first | (exact rfl; exact rfl) | exact rfl)
        | (apply J_seq)
        | (apply J_region)
        | (apply aj_exit; refine J_exit rfl ?_)
        | (apply al_unit; refine JL_u (by apply as_store; exact OpR_store' hs rfl rfl rfl) rfl ?_; rintro _ _ ⟨hs, hF⟩)
        | (apply aj_cond; refine J_dec_f rfl ob ?_))
      have hs : St w NoF _ [Own rs3 es, TabRow (some ⟨b, o, none⟩) n c1 (rs3.set p (2, (none, 0, 0), 0)), Blk b8 _, Blk b4 _] := hs.sel [1, 0, 2, 3] (by decide)
      have hs := St.ownSet hs p
      have hs : St w NoF _ [TabRow (some ⟨b, o, none⟩) n c1 (rs3.set p (2, (none, 0, 0), 0)), Own (rs3.set p (2, (none, 0, 0), 0)) (es.set p gone), Blk b8 _, Blk b4 _] := hs.sel [1, 0, 2, 3] (by decide)
      refine J_leave Try.func27 rfl (.agg' hs rfl rfl (.tmp rfl .nil)) (.inr ⟨rfl, p, xp, _, _, _, ⟨hxp, hxp1, hxp2⟩, rfl, hs.out (.cons_cons _ (.cons_cons _ (List.nil_sublist _)))⟩)
  · rw [if_neg hc]
    repeat' (first
      | ((apply al_call 16; refine JL_o (by exact OpR_callF en16 rfl (lcheck_r _ a n c es (h.st hs) hn)) rfl rfl ?_; rintro _ _ ⟨rfl, hE⟩; rw [if_neg hc]; have hs := hs.ext hE; (try simp only [List.cons_append, List.nil_append] at hs)))
      | (apply JL_nil)
      | ((apply JL_pure); (first
      | (apply as_move; exact OpR_move rfl is_rfl)
      | (apply as_assign; exact OpR_assign rfl is_rfl)
      | (apply as_load; exact OpR_load_agg' hs rfl is_rfl)
      | (apply as_binOp; exact OpR_ibin rfl rfl rfl is_rfl)
      | (apply as_build; exact OpR_build rfl (by (simp only [bld, placesOf, splice, Value.cells, List.take_succ_cons, List.take_zero, List.drop_succ_cons, List.drop_zero, List.cons_append, List.nil_append, List.length_cons, List.length_nil, List.getElem?_cons_zero, List.getElem?_cons_succ, Option.map_some, List.append_nil, Nat.reduceAdd, Nat.reduceMul, Nat.zero_add, Nat.reduceLeDiff, and_self, if_true, List.toList_toArray, Nat.le_refl, Nat.zero_mul, Nat.one_mul]; first | done | rfl)) is_rfl)); first | (exact rfl; exact rfl) | exact rfl)
      | (apply J_seq)
      | (apply J_region)
      | (apply al_none (t := 2); refine JL_o (by apply as_box; exact OpR_box' hs rfl) rfl rfl ?_; rintro _ _ ⟨b2, rfl, hb2, hs, hE⟩)
      | (apply al_none (t := 4); refine JL_o (by apply as_alloc; exact OpR_alloc' hs) rfl rfl ?_; rintro _ _ ⟨b4, rfl, hb4, hs, hE⟩)
      | (apply al_unit; refine JL_u (by apply as_store; exact OpR_store' hs rfl rfl rfl) rfl ?_; rintro _ _ ⟨hs, hF⟩)
      | (apply aj_cond; refine J_dec_t rfl ob ?_))
    refine J_leave Try.func27 rfl (.agg' hs rfl rfl (.tmp rfl .nil)) (.inl ⟨by decide, rfl, hs.frm.ext⟩)
end Go.Eng
/- Lookups: the reference's Without. -/
namespace Go.Eng
open Go.Proofs
set_option linter.unusedSimpArgs false
set_option linter.unusedVariables false
theorem withoutM_succ {es : List Ent} {t : List Int} {k : Nat} {x : Ent} (hx : es[k]? = some x) : withoutM (es.take (k + 1)) t = withoutM (es.take k) t ++ if x.2.1 = t then [] else [x] := by
  unfold withoutM
  rw [List.take_add_one, hx, List.filter_append]
  congr 1
  by_cases h : x.2.1 = t
  · simp [h]
  · simp [h]
attribute [local irreducible] Hold J JL JD JX JXat OpR OpG Ret RetV Is Blk Row MapC
set_option maxRecDepth 100000
set_option maxHeartbeats 1000000
theorem withoutR_r (w : World) (a : Option Addr) (n c : Nat) (rs : List REnt) (es : List Ent) (a2 : Option Addr) (n2 c2 : Nat) (t : List Int) (hr : Sl dREnt All w a n c rs) (hm : MeanV mEnt All w rs es) (hn : n ≤ 1048576) (h2 : Sl (tInt .u64) All w a2 n2 c2 t) :
    Ret Try.prog 24 #[.slice a n c, .slice a2 n2 c2] w fun v w' => ∃ (zs : List ZE) (a' : Option Addr) (c' : Nat), zs.map Prod.snd = withoutM es t ∧ (∀ p ∈ zs, p ∈ rs.zip es) ∧ v = .slice a' (withoutM es t).length c' ∧ Fresh w w' [TabRow a' (withoutM es t).length c' (zs.map Prod.fst)] := by
  refine Ret_of (l := [_, _]) Try.func24 rfl Try.ntmps24 (by simp) ?_
  have hs := St.init w
  have hl := hr.len
  have hle : es.length = n := by rw [← hm.1]; exact hl
  repeat' (first
    | (apply JL_nil)
    | ((apply JL_pure); (first
      | (apply as_move; exact OpR_move rfl is_rfl)
      | (apply as_assign; exact OpR_assign rfl is_rfl)
      | (apply as_b_len; exact OpR_len rfl is_rfl)); first | (exact rfl; exact rfl) | exact rfl)
    | (apply J_seq)
    | (apply J_region)
    | (apply J_block))
  have hs := hs.nilRow 39 3
  refine J_loopK (α := Nat × List ZE × Nat × Option Addr × Nat) [(1, _), (8, _), (9, _)] (fun g => [(5, .slice g.2.2.2.1 g.2.2.1 g.2.2.2.2), (10, .int .i64 g.1)])
    (fun g w' => St w NoF w' [Row g.2.2.2.1 g.2.2.1 g.2.2.2.2 39 3 (encL cREnt (g.2.1.map Prod.fst))] ∧ g.1 ≤ n ∧ (∀ p ∈ g.2.1, p ∈ rs.zip es) ∧ g.2.1.map Prod.snd = withoutM (es.take g.1) t ∧ g.2.2.1 = g.2.1.length ∧ g.2.1.length ≤ g.1)
    (fun g => n - g.1) (0, [], 0, none, 0) ⟨hs.sel [0] (by decide), by dsimp only; omega, (fun p hp => (by cases hp)), rfl, rfl, Nat.le_refl _⟩ (by repeat' (first | exact trivial | exact rfl | apply And.intro)) ?_
  rintro ⟨k, zs, m, a', c'⟩ w2 ⟨hs1, hk, hz, hmap, hml, hmk⟩ ih
  dsimp only at hs1 hk hz hmap hml hmk ih ⊢
  by_cases hlt : k < n
  · obtain ⟨p, o, rfl⟩ := hr.sl.addr (by omega)
    have hs : St w NoF w2 [_] := hs1
    have hx : es[k]? = some (es[k]'(by omega)) := List.getElem?_eq_getElem (by omega)
    obtain ⟨x, hxd⟩ : ∃ x, x = es[k]'(by omega) := ⟨_, rfl⟩
    rw [← hxd] at hx
    obtain ⟨r, hrx, hrel⟩ := hm.get hx
    have mx : Sl (tInt .u64) All w r.2.1.1 r.2.1.2.1 r.2.1.2.2 x.2.1 := hrel.2.1
    have hzx : (r, x) ∈ rs.zip es := zip_get hrx hx
    have hak := withoutM_succ (t := t) hx
    by_cases hc : x.2.1 = t
    · rw [if_pos hc, List.append_nil] at hak
      repeat' (first
        | ((apply al_call 57; refine JL_o (by exact OpR_callF en57 rfl (sameR_r _ r.2.1.1 a2 r.2.1.2.1 r.2.1.2.2 n2 c2 x.2.1 t (mx.st hs) (h2.st hs))) rfl rfl ?_; rintro _ _ ⟨rfl, hE⟩; rw [decide_eq_true hc]; have hs := hs.ext hE; (try simp only [List.cons_append, List.nil_append] at hs)))
        | (apply JL_nil)
        | ((apply JL_pure); (first
      | (apply as_load; first | exact OpR_load' hs rfl rfl is_rfl | exact OpR_load_agg' hs rfl is_rfl | exact OpR_load_el (hr.st hs) hrx rfl rfl is_rfl)
      | (apply as_move; exact OpR_move rfl is_rfl)
      | (apply as_fieldAddr; exact OpR_fieldAddr0 rfl rfl is_rfl)
      | (apply as_add; exact OpR_addn rfl rfl (by omega) (by first | (simp only [Int.reduceAdd]; exact rfl) | exact rfl) is_rfl)
      | (apply as_binOp; exact OpR_ibin rfl rfl rfl is_rfl)
      | (apply as_unOp; exact OpR_not rfl is_rfl)
      | (apply as_indexAddr; exact OpR_indexAddr rfl rfl (by omega) (by omega) is_rfl)); first | (exact rfl; exact rfl) | exact rfl)
        | (apply J_seq)
        | (apply J_region)
        | (apply J_block)
        | (apply J_inBlock)
        | (apply J_skip)
        | (apply al_none (t := 7); refine JL_o (by apply as_alloc; exact OpR_alloc' hs) rfl rfl ?_; rintro _ _ ⟨b7, rfl, hb7, hs, hE⟩)
        | (apply al_unit; refine JL_u (by apply as_store; exact OpR_store' hs rfl rfl rfl) rfl ?_; rintro _ _ ⟨hs, hF⟩)
        | (apply aj_cond; first | refine J_dec_t rfl ob ?_ | refine J_cond_f rfl gb ?_))
      refine ih (k + 1, zs, m, a', c') _ _ ⟨hs.sel [1] (by decide), by dsimp only; omega, hz, hmap.trans hak.symm, hml, by dsimp only; omega⟩ (by dsimp only; omega) (by repeat' (first | exact trivial | exact rfl | apply And.intro))
    · rw [if_neg hc] at hak
      have hcc := encL_snoc zs (r, x)
      repeat' (first
        | ((apply al_call 57; refine JL_o (by exact OpR_callF en57 rfl (sameR_r _ r.2.1.1 a2 r.2.1.2.1 r.2.1.2.2 n2 c2 x.2.1 t (mx.st hs) (h2.st hs))) rfl rfl ?_; rintro _ _ ⟨rfl, hE⟩; rw [decide_eq_false hc]; have hs := hs.ext hE; (try simp only [List.cons_append, List.nil_append] at hs)))
        | ((apply al_none (t := 22); refine JL_o (by apply as_b_append; exact OpR_append (xs := encL cREnt (zs.map Prod.fst)) (news := cREnt r) hs rfl rfl (src_blk3 (hs.blk (b := b21))) plain_blk rfl (by omega) (by unfold maxLen; omega)) rfl rfl ?_; rintro _ _ ⟨a4, c4, rfl, hs, hF, hnil⟩; rw [show encL cREnt (zs.map Prod.fst) ++ cREnt r = encL cREnt ((zs ++ [(r, x)]).map Prod.fst) from hcc] at hs))
        | (apply JL_nil)
        | ((apply JL_pure); (first
      | (apply as_load; first | exact OpR_load' hs rfl rfl is_rfl | exact OpR_load_agg' hs rfl is_rfl | exact OpR_load_el (hr.st hs) hrx rfl rfl is_rfl)
      | (apply as_move; exact OpR_move rfl is_rfl)
      | (apply as_assign; exact OpR_assign rfl is_rfl)
      | (apply as_fieldAddr; exact OpR_fieldAddr0 rfl rfl is_rfl)
      | (apply as_add; exact OpR_addn rfl rfl (by omega) (by first | (simp only [Int.reduceAdd]; exact rfl) | exact rfl) is_rfl)
      | (apply as_binOp; exact OpR_ibin rfl rfl rfl is_rfl)
      | (apply as_unOp; exact OpR_not rfl is_rfl)
      | (apply as_indexAddr; exact OpR_indexAddr rfl rfl (by omega) (by omega) is_rfl)); first | (exact rfl; exact rfl) | exact rfl)
        | (apply J_seq)
        | (apply J_region)
        | (apply J_block)
        | (apply J_inBlock)
        | (apply J_skip)
        | (apply al_none (t := 7); refine JL_o (by apply as_alloc; exact OpR_alloc' hs) rfl rfl ?_; rintro _ _ ⟨b7, rfl, hb7, hs, hE⟩)
        | (apply al_none (t := 21); refine JL_o (by apply as_buildSlice; exact OpR_buildSlice hs rfl (by omega) rfl) rfl rfl ?_; rintro _ _ ⟨b21, rfl, hb21, hs, hE⟩)
        | (apply al_unit; refine JL_u (by apply as_store; exact OpR_store' hs rfl rfl rfl) rfl ?_; rintro _ _ ⟨hs, hF⟩)
        | (apply aj_cond; first | refine J_dec_t rfl ob ?_ | refine J_cond_t rfl gb ?_))
      refine ih (k + 1, zs ++ [(r, x)], m + 1, a4, c4) _ _ ⟨hs.sel [2] (by decide), by dsimp only; omega, ?_, ?_, by dsimp only; rw [List.length_append, ← hml]; rfl, by dsimp only; rw [List.length_append]; simp; omega⟩ (by dsimp only; omega) (by repeat' (first | exact trivial | exact rfl | apply And.intro))
      · intro q hq
        rcases List.mem_append.1 hq with hq | hq
        · exact hz q hq
        · rw [List.mem_singleton.1 hq]; exact hzx
      · dsimp only
        rw [hak, List.map_append, hmap]; rfl
  · have hs : St w NoF w2 [_] := hs1
    rw [List.take_of_length_le (by omega)] at hmap
    have hll : (withoutM es t).length = m := by rw [← hmap, List.length_map, hml]
    repeat' (first
      | (apply JL_nil)
      | ((apply JL_pure); (first
      | (apply as_move; exact OpR_move rfl is_rfl)
      | (apply as_assign; exact OpR_assign rfl is_rfl)
      | (apply as_binOp; exact OpR_ibin rfl rfl rfl is_rfl)); first | (exact rfl; exact rfl) | exact rfl)
      | (apply J_seq)
      | (apply J_region)
      | (apply aj_exit; refine J_exit rfl ?_)
      | (apply aj_cond; refine J_dec_f rfl ob ?_))
    rw [hll]
    refine J_leave Try.func24 rfl (.tmp rfl .nil) ⟨zs, _, _, hmap, hz, rfl, hs.out (.cons_cons _ (List.nil_sublist _))⟩
end Go.Eng
/- Lookups: the law's same. -/
namespace Go.Eng
open Go.Proofs
set_option linter.unusedSimpArgs false
set_option linter.unusedVariables false
abbrev sameE (x y : Ent) : Bool := decide (x.2.2 = y.2.2) && decide (x.2.1 = y.2.1)
theorem sameE_eq {x y : Ent} (hx : x.1 = 1) (hy : y.1 = 1) : sameE x y = decide (x = y) := by
  obtain ⟨xa, xb, xc⟩ := x
  obtain ⟨ya, yb, yc⟩ := y
  dsimp only at hx hy
  subst hx; subst hy
  by_cases h : xb = yb <;> by_cases h2 : xc = yc <;> simp [h, h2]
theorem allF_one {es : List Ent} {x : Ent} (h : x ∈ allF es) : x.1 = 1 := by
  unfold allF at h
  by_cases hc : checkB es = true
  · rw [if_pos hc] at h; exact (allM_mem h).2
  · rw [if_neg hc] at h; cases h
attribute [local irreducible] Hold J JL JD JX JXat OpR OpG Ret RetV Is Blk Row MapC
set_option maxRecDepth 100000
set_option maxHeartbeats 1000000
theorem same1_r (w : World) (r q : REnt) (x y : Ent) (h1 : mEnt.rel All w r x) (h2 : mEnt.rel All w q y) :
    Ret Try.prog 67 #[.agg (cREnt r).toArray, .agg (cREnt q).toArray] w fun v w' => v = .bool (sameE x y) ∧ Ext w w' := by
  refine Ret_of (l := [_, _]) Try.func67 rfl Try.ntmps67 (by simp) ?_
  have hs := St.init w
  have mx : Sl (tInt .u64) All w r.2.1.1 r.2.1.2.1 r.2.1.2.2 x.2.1 := h1.2.1
  have my : Sl (tInt .u64) All w q.2.1.1 q.2.1.2.1 q.2.1.2.2 y.2.1 := h2.2.1
  have e3 : r.2.2 = x.2.2 := h1.2.2
  have f3 : q.2.2 = y.2.2 := h2.2.2
  unfold sameE
  rw [← e3, ← f3]
  by_cases c : r.2.2 = q.2.2
  · rw [decide_eq_true c, Bool.true_and]
    repeat' (first
      | ((apply al_callg 68; refine JL_o_on rfl gb (by exact OpR_callF en68 rfl (equalId_r _ r.2.1.1 q.2.1.1 r.2.1.2.1 r.2.1.2.2 q.2.1.2.1 q.2.1.2.2 x.2.1 y.2.1 (mx.st hs) (my.st hs))) rfl rfl ?_; rintro _ _ ⟨rfl, hE⟩; have hs := hs.ext hE; (try simp only [List.cons_append, List.nil_append] at hs)))
      | (apply JL_nil)
      | ((first | (apply JL_pure) | (apply JL_pure_on; exact rfl; exact gb)); (first
      | (apply as_move; exact OpR_move rfl is_rfl)
      | (apply as_assign; exact OpR_assign rfl is_rfl)
      | (apply as_fieldAddr; exact OpR_fieldAddr0 rfl rfl is_rfl)
      | (apply as_load; exact OpR_load' hs rfl rfl is_rfl)
      | (apply as_binOp; exact OpR_ibin rfl rfl rfl is_rfl)
      | (apply as_pick; exact OpR_pick_t rfl gb rfl is_rfl)); first | (exact rfl; exact rfl) | exact rfl)
      | (apply J_seq)
      | (apply J_region)
      | (apply al_none (t := 2); refine JL_o (by apply as_box; exact OpR_box' hs rfl) rfl rfl ?_; rintro _ _ ⟨b2, rfl, hb2, hs, hE⟩)
      | (apply al_none (t := 3); refine JL_o (by apply as_box; exact OpR_box' hs rfl) rfl rfl ?_; rintro _ _ ⟨b3, rfl, hb3, hs, hE⟩))
    refine J_leave Try.func67 rfl (.tmp rfl .nil) ⟨rfl, hs.frm.ext⟩
  · rw [decide_eq_false c, Bool.false_and]
    repeat' (first
      | (apply JL_nil)
      | ((apply JL_pure); (first
      | (apply as_move; exact OpR_move rfl is_rfl)
      | (apply as_assign; exact OpR_assign rfl is_rfl)
      | (apply as_fieldAddr; exact OpR_fieldAddr0 rfl rfl is_rfl)
      | (apply as_load; exact OpR_load' hs rfl rfl is_rfl)
      | (apply as_binOp; exact OpR_ibin rfl rfl rfl is_rfl)
      | (apply as_pick; exact OpR_pick_f rfl gb rfl is_rfl)); first | (exact rfl; exact rfl) | exact rfl)
      | (apply J_seq)
      | (apply J_region)
      | (apply al_none (t := 2); refine JL_o (by apply as_box; exact OpR_box' hs rfl) rfl rfl ?_; rintro _ _ ⟨b2, rfl, hb2, hs, hE⟩)
      | (apply al_none (t := 3); refine JL_o (by apply as_box; exact OpR_box' hs rfl) rfl rfl ?_; rintro _ _ ⟨b3, rfl, hb3, hs, hE⟩)
      | (apply al_guard; (refine JL_no rfl gb rfl ?_)))
    refine J_leave Try.func67 rfl (.tmp rfl .nil) ⟨rfl, hs.frm.ext⟩
theorem equalF_r (w : World) (a1 a2 : Option Addr) (n1 c1 n2 c2 : Nat) (xs ys : List Ent) (h1 : Sl dEnt All w a1 n1 c1 xs) (h2 : Sl dEnt All w a2 n2 c2 ys) (hn : n1 ≤ 1048576) (o1 : ∀ x ∈ xs, x.1 = 1) (o2 : ∀ y ∈ ys, y.1 = 1) :
    Ret Try.prog 66 #[.slice a1 n1 c1, .slice a2 n2 c2, .func (.func 67) #[] #[]] w fun v w' => v = .bool (decide (xs = ys)) ∧ Ext w w' := by
  refine Ret_of (l := [_, _, _]) Try.func66 rfl Try.ntmps66 (by simp) ?_
  have hs := St.init w
  obtain ⟨rs, hr, hm⟩ := Sl.raw (D := rawEnt) h1
  obtain ⟨qs, hq, hmq⟩ := Sl.raw (D := rawEnt) h2
  have hl := hr.len
  have hl2 := hq.len
  have hle := h1.len
  have hle2 := h2.len
  by_cases hnn : n1 = n2
  · subst hnn
    repeat' (first
      | (apply JL_nil)
      | ((apply JL_pure); (first
      | (apply as_move; exact OpR_move rfl is_rfl)
      | (apply as_assign; exact OpR_assign rfl is_rfl)
      | (apply as_binOp; exact OpR_ibin rfl rfl rfl is_rfl)
      | (apply as_b_len; exact OpR_len rfl is_rfl)); first | (exact rfl; exact rfl) | exact rfl)
      | (apply J_seq)
      | (apply J_region)
      | (apply J_block)
      | (apply J_skip)
      | (apply aj_cond; refine J_dec_f rfl ob ?_))
    refine J_loopK (α := Nat) [(1, _), (2, _), (15, _), (16, _)] (fun k => [(17, .int .i64 k)]) (fun k w' => St w NoF w' [] ∧ k ≤ n1 ∧ xs.take k = ys.take k) (fun k => n1 - k) 0 ⟨hs, by omega, rfl⟩ (by repeat' (first | exact trivial | exact rfl | apply And.intro)) ?_
    rintro k w' ⟨hs1, hk, hG⟩ ih
    by_cases hlt : k < n1
    · obtain ⟨p1, o1', rfl⟩ := hr.sl.addr (by omega)
      obtain ⟨p2, o2', rfl⟩ := hq.sl.addr (by omega)
      have hs : St w NoF w' [] := hs1
      have hx : xs[k]? = some xs[k] := List.getElem?_eq_getElem (by omega)
      have hy : ys[k]? = some ys[k] := List.getElem?_eq_getElem (by omega)
      obtain ⟨x, hxd⟩ : ∃ x, x = xs[k] := ⟨_, rfl⟩
      obtain ⟨y, hyd⟩ : ∃ y, y = ys[k] := ⟨_, rfl⟩
      rw [← hxd] at hx
      rw [← hyd] at hy
      obtain ⟨r, hrx, hrel⟩ := hm.get hx
      obtain ⟨q, hqx, hqel⟩ := hmq.get hy
      have hse := sameE_eq (o1 x (List.mem_of_getElem? hx)) (o2 y (List.mem_of_getElem? hy))
      by_cases hxy : x = y
      · rw [decide_eq_true hxy] at hse
        have hT := take_eq_succ hx (by rw [hxy]; exact hy) hG
        repeat' (first
          | ((apply al_none (t := 29); refine JL_o (OpR_callV rfl rfl (Ret.value (cap := #[]) en67 (same1_r _ r q x y (mEnt.loc hrel (fun k _ hk => hs.frm.old k hk id)) (mEnt.loc hqel (fun k _ hk => hs.frm.old k hk id))))) rfl rfl ?_; rintro _ _ ⟨rfl, hE⟩; rw [hse]; have hs := hs.ext hE))
          | (apply JL_nil)
          | ((apply JL_pure); (first
      | (apply as_load; first | exact OpR_load' hs rfl rfl is_rfl | exact OpR_load_agg' hs rfl is_rfl | exact OpR_load_el (hr.st hs) hrx rfl rfl is_rfl | exact OpR_load_el (hq.st hs) hqx rfl rfl is_rfl)
      | (apply as_move; exact OpR_move rfl is_rfl)
      | (apply as_assign; exact OpR_assign rfl is_rfl)
      | (apply as_add; exact OpR_addn rfl rfl (by omega) (by first | (simp only [Int.reduceAdd]; exact rfl) | exact rfl) is_rfl)
      | (apply as_binOp; exact OpR_ibin rfl rfl rfl is_rfl)
      | (apply as_unOp; exact OpR_not rfl is_rfl)
      | (apply as_indexAddr; exact OpR_indexAddr rfl rfl (by omega) (by omega) is_rfl)); first | (exact rfl; exact rfl) | exact rfl)
          | (apply J_seq)
          | (apply J_region)
          | (apply J_block)
          | (apply J_inBlock)
          | (apply J_skip)
          | (apply al_none (t := 8); refine JL_o (by apply as_alloc; exact OpR_alloc' hs) rfl rfl ?_; rintro _ _ ⟨b8, rfl, hb8, hs, hE⟩)
          | (apply al_none (t := 9); refine JL_o (by apply as_alloc; exact OpR_alloc' hs) rfl rfl ?_; rintro _ _ ⟨b9, rfl, hb9, hs, hE⟩)
          | (apply al_unit; refine JL_u (by apply as_store; exact OpR_store' hs rfl rfl rfl) rfl ?_; rintro _ _ ⟨hs, hF⟩)
          | (apply aj_cond; first | refine J_dec_t rfl ob ?_ | refine J_cond_f rfl gb ?_))
        refine ih (k + 1) _ _ ⟨hs.sel [] (by decide), by omega, hT⟩ (by omega) (by repeat' (first | exact trivial | exact rfl | apply And.intro))
      · rw [decide_eq_false hxy] at hse
        rw [getD_ne hx hy hxy]
        repeat' (first
          | ((apply al_none (t := 29); refine JL_o (OpR_callV rfl rfl (Ret.value (cap := #[]) en67 (same1_r _ r q x y (mEnt.loc hrel (fun k _ hk => hs.frm.old k hk id)) (mEnt.loc hqel (fun k _ hk => hs.frm.old k hk id))))) rfl rfl ?_; rintro _ _ ⟨rfl, hE⟩; rw [hse]; have hs := hs.ext hE))
          | (apply JL_nil)
          | ((apply JL_pure); (first
      | (apply as_load; first | exact OpR_load' hs rfl rfl is_rfl | exact OpR_load_agg' hs rfl is_rfl | exact OpR_load_el (hr.st hs) hrx rfl rfl is_rfl | exact OpR_load_el (hq.st hs) hqx rfl rfl is_rfl)
      | (apply as_move; exact OpR_move rfl is_rfl)
      | (apply as_assign; exact OpR_assign rfl is_rfl)
      | (apply as_binOp; exact OpR_ibin rfl rfl rfl is_rfl)
      | (apply as_unOp; exact OpR_not rfl is_rfl)
      | (apply as_indexAddr; exact OpR_indexAddr rfl rfl (by omega) (by omega) is_rfl)); first | (exact rfl; exact rfl) | exact rfl)
          | (apply J_seq)
          | (apply J_region)
          | (apply J_block)
          | (apply J_skip)
          | (apply al_none (t := 8); refine JL_o (by apply as_alloc; exact OpR_alloc' hs) rfl rfl ?_; rintro _ _ ⟨b8, rfl, hb8, hs, hE⟩)
          | (apply al_none (t := 9); refine JL_o (by apply as_alloc; exact OpR_alloc' hs) rfl rfl ?_; rintro _ _ ⟨b9, rfl, hb9, hs, hE⟩)
          | (apply al_unit; refine JL_u (by apply as_store; exact OpR_store' hs rfl rfl rfl) rfl ?_; rintro _ _ ⟨hs, hF⟩)
          | (apply aj_cond; first | refine J_dec_t rfl ob ?_ | refine J_cond_t rfl gb ?_))
        refine J_leave Try.func66 rfl (.tmp rfl .nil) ⟨rfl, hs.frm.ext⟩
    · have hs : St w NoF w' [] := hs1
      rw [List.take_of_length_le (by omega), List.take_of_length_le (by omega)] at hG
      rw [decide_eq_true hG]
      repeat' (first
        | (apply JL_nil)
        | ((apply JL_pure); (first
      | (apply as_assign; exact OpR_assign rfl is_rfl)
      | (apply as_binOp; exact OpR_ibin rfl rfl rfl is_rfl)); first | (exact rfl; exact rfl) | exact rfl)
        | (apply J_seq)
        | (apply J_region)
        | (apply aj_exit; refine J_exit rfl ?_)
        | (apply aj_cond; refine J_dec_f rfl ob ?_))
      refine J_leave Try.func66 rfl (.tmp rfl .nil) ⟨rfl, hs.frm.ext⟩
  · rw [decide_eq_false (fun e => hnn (by subst e; omega))]
    repeat' (first
      | (apply JL_nil)
      | ((apply JL_pure); (first
      | (apply as_move; exact OpR_move rfl is_rfl)
      | (apply as_assign; exact OpR_assign rfl is_rfl)
      | (apply as_binOp; exact OpR_ibin rfl rfl rfl is_rfl)
      | (apply as_b_len; exact OpR_len rfl is_rfl)); first | (exact rfl; exact rfl) | exact rfl)
      | (apply J_seq)
      | (apply J_region)
      | (apply aj_cond; refine J_dec_t rfl ob ?_))
    refine J_leave Try.func66 rfl (.tmp rfl .nil) ⟨rfl, hs.frm.ext⟩
theorem same_r (w : World) (a1 a2 : Option Addr) (n1 c1 n2 c2 : Nat) (xs ys : List Ent) (h1 : Sl dEnt All w a1 n1 c1 xs) (h2 : Sl dEnt All w a2 n2 c2 ys) (hn1 : n1 ≤ 1048576) (hn2 : n2 ≤ 1048576) :
    Ret Try.prog 34 #[.agg #[.slice a1 n1 c1], .agg #[.slice a2 n2 c2]] w fun v w' => v = .bool (decide (allF xs = allF ys)) ∧ Ext w w' := by
  refine Ret_of (l := [_, _]) Try.func34 rfl Try.ntmps34 (by simp) ?_
  have hs := St.init w
  have hl4 := allF_le xs
  repeat' (first
    | ((apply ax_c; apply JX_cF 15; exact rfl; (intro W X hN hs; exact OpR_callF en15 rfl (all_r _ a1 n1 c1 xs (h1.st hs) hn1)); (rintro _ _ _ _ ⟨a3, c3, rs3, rfl, hf⟩; first | exact hE | exact Fresh.ext hf); rintro W X _ _ hN hs ⟨a3, c3, rs3, rfl, hf⟩; have hs := hs.fresh hf; (try simp only [List.cons_append, List.nil_append] at hs); refine JX.at hs ?_))
    | ((apply ax_c; apply JX_cF 15; exact rfl; (intro W X hN hs; exact OpR_callF en15 rfl (all_r _ a2 n2 c2 ys (h2.st hs) hn2)); (rintro _ _ _ _ ⟨a4, c4, rs4, rfl, hf⟩; first | exact hE | exact Fresh.ext hf); rintro W X _ _ hN hs ⟨a4, c4, rs4, rfl, hf⟩; have hs := hs.fresh hf; (try simp only [List.cons_append, List.nil_append] at hs); refine JX.at hs ?_))
    | ((apply ax_c; apply JX_cF 66; exact rfl; (intro W X hN hs; exact OpR_callF en66 rfl (equalF_r _ a3 a4 (allF xs).length c3 (allF ys).length c4 (allF xs) (allF ys) (slOwn (rs := rs3) hs (by repeat (first | exact List.Mem.head _ | apply List.Mem.tail)) (by repeat (first | exact List.Mem.head _ | apply List.Mem.tail))) (slOwn (rs := rs4) hs (by repeat (first | exact List.Mem.head _ | apply List.Mem.tail)) (by repeat (first | exact List.Mem.head _ | apply List.Mem.tail))) (by omega) (fun x hx => allF_one hx) (fun x hx => allF_one hx))); (rintro _ _ _ _ ⟨rfl, hE⟩; first | exact hE | exact Fresh.ext hf); rintro W X _ _ hN hs ⟨rfl, hE⟩; have hs := hs.ext hE; (try simp only [List.cons_append, List.nil_append] at hs); refine JX.at hs ?_))
    | (apply JL_nil)
    | ((first | (apply JL_pure) | (apply JX_f; exact rfl; intro W X hs)); (first
      | (apply as_assign; exact OpR_assign rfl is_rfl)
      | (apply as_load; exact OpR_load_agg' hs rfl is_rfl)); first | (exact rfl; exact rfl) | exact rfl)
    | (apply J_seq)
    | (apply J_region)
    | (apply al_none (t := 2); refine JL_o (by apply as_box; exact OpR_box' hs rfl) rfl rfl ?_; rintro _ _ ⟨b2, rfl, hb2, hs, hE⟩)
    | (apply al_none (t := 3); refine JL_o (by apply as_box; exact OpR_box' hs rfl) rfl rfl ?_; rintro _ _ ⟨b3, rfl, hb3, hs, hE⟩)
    | (apply aj_draw; (refine J_drawX (id := 1) [0, 1, 0, 7, 15, 31] [(0, 0), (2, 0), (1, 1), (3, 1), (4, 1), (5, 0)] [] hs mixed (by kernel_rfl) (by kernel_rfl) (by kernel_rfl) (by kernel_rfl) (by kernel_rfl) ?_))
    | (refine JX_done (fun W hs => ?_))
    | (apply JD_done))
  refine J_leave Try.func34 rfl (.tmp rfl .nil) ⟨rfl, hs.frm.ext⟩
end Go.Eng
