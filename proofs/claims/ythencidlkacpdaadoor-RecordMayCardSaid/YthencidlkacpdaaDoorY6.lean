/- The texts D35, joined. -/
import Derived.Test.YthencidlkacpdaaDoorY5
/- RecordMay: which records may be, and who stands where. -/
namespace Go.Eng
open Go.Proofs
set_option linter.unusedSimpArgs false
set_option linter.unusedVariables false
theorem who_ref2 {xs : List Sp} (h : RightV xs) (s : Sp) : refWhoM xs s = whoM xs s := by
  by_cases h0 : 0 < s.1
  · exact who_ref h h0
  · have h1 : refWhoM xs s = 0 := by unfold refWhoM; rw [if_neg h0]
    rw [h1]
    rcases whoM_or xs s with ⟨h2, _⟩ | ⟨k, _, h2, h3⟩
    · exact h2.symm
    · have := (h.pos (k := k) (by rw [h2]; exact h3)).2
      rw [h2] at this; exact absurd this h0
theorem slNil (w : World) : Sl (tInt .i64) All w none 0 0 (enL []) := slL (by simp) (((St.init w).nilRow 3 1).row none 0 0)
attribute [local irreducible] Hold J JL JD JX JXat OpR OpG Ret RetV Is Blk Row MapC
set_option maxRecDepth 100000
set_option maxHeartbeats 1000000
theorem recordMay_w (w : World) (hG : Gz w) (a1 : Option Addr) (n1 c1 : Nat) (xs1 : List Sp) (a2 : Option Addr) (n2 c2 : Nat) (xs2 : List Sp) (an : Option Addr) (nn cn : Nat) (ns : List Int) (ap : Option Addr) (np cp : Nat) (ss : List Sp)
    (h1 : Sl dSp All w a1 n1 c1 xs1) (h2 : Sl dSp All w a2 n2 c2 xs2) (hn : Sl (tInt .i64) All w an nn cn ns) (hp : Sl dSp All w ap np cp ss) :
    Ret Tryd.prog 3 #[.agg #[.slice a1 n1 c1, .slice a2 n2 c2], .slice an nn cn, .slice ap np cp] w fun v w' => v = .bool true ∧ Ext w w' := by
  refine Ret_of (l := [_, _, _]) Tryd.func3 rfl Tryd.ntmps3 (by simp) ?_
  have hs := St.init w
  have hnl := hn.len
  have hnc := hn.le
  have hnm := hn.cap
  have hpl := hp.len
  have hpc := hp.le
  have hpm := hp.cap
  unfold maxLen at hnm hpm
  obtain ⟨zs, hzs⟩ : ∃ zs, zs = xs1.take 40 := ⟨_, rfl⟩
  have hzl : zs.length ≤ 40 := by rw [hzs]; exact take40 xs1
  have hzok : ∀ s ∈ zs, okS s := fun s hs => by
    rw [hzs] at hs
    obtain ⟨j, hj⟩ := List.mem_iff_getElem?.1 (List.mem_of_mem_take hs); exact h1.okSp hj
  obtain ⟨ys, hys⟩ : ∃ ys, ys = xs2.take 40 := ⟨_, rfl⟩
  have hyl : ys.length ≤ 40 := by rw [hys]; exact take40 xs2
  have hyok : ∀ s ∈ ys, okS s := fun s hs => by
    rw [hys] at hs
    obtain ⟨j, hj⟩ := List.mem_iff_getElem?.1 (List.mem_of_mem_take hs); exact h2.okSp hj
  have hbb : (decide (zs = ys) != decide (zs = ys)) = false := by simp
  have e9 : decide (zs = zs) = true := by simp
  obtain ⟨b, hr⟩ : ∃ b, rightB zs = b := ⟨_, rfl⟩
  cases b with
  | true =>
    have hV := rightV_iff.1 hr
    repeat' (first
      | ((apply aj_block 0; refine J_cutK (γ := Unit) [(2, _), (7, _), (8, _), (10, _), (58, _), (59, _)] (by repeat' (first | exact trivial | exact rfl | apply And.intro)) (fun _ => []) (fun _ w' => St w NoF w' [Blk b8 (.cells #[.slice ac zs.length cc] 24 (0, 0)), Row ac zs.length cc 34 2 (cSp zs), Blk b7 (.cells #[.slice a1 n1 c1] 24 (0, 0))]) (fun R k hcont => hold ?_) (hold ?_)))
      | ((apply al_call 8; refine JL_o (by exact OpR_callF en8 rfl (wakes_r _ (hG.st hs))) rfl rfl ?_; rintro _ _ ⟨rfl, hE⟩; have hs := hs.ext hE; (try simp only [List.cons_append, List.nil_append] at hs)))
      | ((apply ax_c; apply JX_cF 9; exact rfl; (intro W X hN hs; exact OpR_callF en9 rfl (own_r _ a1 n1 c1 xs1 (h1.st hs))); (rintro _ _ _ _ ⟨ac, cc, rfl, hf⟩; first | exact hE | exact Fresh.ext hf); rintro W X _ _ hN hs ⟨ac, cc, rfl, hf⟩; rw [← hzs] at hf ⊢; have hs := hs.fresh hf; (try simp only [List.cons_append, List.nil_append] at hs); refine JX.at hs ?_))
      | ((apply ax_c; apply JX_cF 9; exact rfl; (intro W X hN hs; exact OpR_callF en9 rfl (own_r _ a2 n2 c2 xs2 (h2.st hs))); (rintro _ _ _ _ ⟨ab, cb, rfl, hf⟩; first | exact hE | exact Fresh.ext hf); rintro W X _ _ hN hs ⟨ab, cb, rfl, hf⟩; rw [← hys] at hf ⊢; have hs := hs.fresh hf; (try simp only [List.cons_append, List.nil_append] at hs); refine JX.at hs ?_))
      | ((apply al_call 10; refine JL_o (by exact OpR_callF en10 rfl (right10_r _ ac zs.length cc zs (RowV.sp (hs.row ac zs.length cc) hzok))) rfl rfl ?_; rintro _ _ ⟨rfl, hE⟩; rw [hr]; have hs := hs.ext hE; (try simp only [List.cons_append, List.nil_append] at hs)))
      | ((apply al_call 11; refine JL_o (by exact OpR_callF en11 rfl (check_v (hG.st hs) (RowV.sp (hs.row ac zs.length cc) hzok) hr)) rfl rfl ?_; rintro _ _ ⟨rfl, hE⟩; have hs := hs.ext hE; (try simp only [List.cons_append, List.nil_append] at hs)))
      | ((apply ax_c; apply JX_cFg 12; exact rfl; exact rfl; exact (by first | assumption | rfl | exact decide_eq_true (by first | assumption | omega) | exact decide_eq_false (by first | assumption | omega)); (intro W X hN hs; exact OpR_callF en12 rfl (same12_r _ ac ab zs.length cc ys.length cb zs ys (RowV.sp (hs.row ac zs.length cc) hzok) (RowV.sp (hs.row ab ys.length cb) hyok))); (rintro _ _ _ _ ⟨rfl, hE⟩; first | exact hE | exact Fresh.ext hf); rintro W X _ _ hN hs ⟨rfl, hE⟩; have hs := hs.ext hE; (try simp only [List.cons_append, List.nil_append] at hs); refine JX.at hs ?_))
      | ((apply ax_c; apply JX_cFg 13; exact rfl; exact rfl; exact (by first | assumption | rfl | exact decide_eq_true (by first | assumption | omega) | exact decide_eq_false (by first | assumption | omega)); (intro W X hN hs; exact OpR_callF en13 rfl (same13_r _ ac ab zs.length cc ys.length cb zs ys (RowV.sp (hs.row ac zs.length cc) hzok) (RowV.sp (hs.row ab ys.length cb) hyok))); (rintro _ _ _ _ ⟨rfl, hE⟩; first | exact hE | exact Fresh.ext hf); rintro W X _ _ hN hs ⟨rfl, hE⟩; have hs := hs.ext hE; (try simp only [List.cons_append, List.nil_append] at hs); refine JX.at hs ?_))
      | (apply JL_nil)
      | ((first | (apply JL_pure) | (apply JX_f; exact rfl; intro W X hs) | (apply JX_f_on; exact rfl; exact rfl; (first | assumption | exact rfl | exact decide_eq_true (by first | assumption | omega) | exact decide_eq_false (by first | assumption | omega)); intro W X hs)); (first
      | (apply as_move; exact OpR_move rfl is_rfl)
      | (apply as_assign; exact OpR_assign rfl is_rfl)
      | (apply as_load; exact OpR_load_agg' hs rfl is_rfl)
      | (apply as_binOp; first | exact OpR_ibin rfl rfl rfl is_rfl | exact OpR_bne rfl rfl is_rfl)
      | (apply as_unOp; exact OpR_not rfl is_rfl)
      | (apply as_pick; exact OpR_pick_f rfl (by first | assumption | rfl | exact decide_eq_true (by first | assumption | omega) | exact decide_eq_false (by first | assumption | omega)) rfl is_rfl)
      | (apply as_b_len; exact OpR_len rfl is_rfl)
      | (apply as_indexAddr; exact OpR_indexAddr_arr' rfl rfl (by omega) (by omega) (by first | (simp only [Int.reduceToNat, Nat.reduceMul, Nat.reduceAdd]; exact rfl) | exact rfl) is_rfl)); first | (exact rfl; exact rfl) | exact rfl)
      | (apply J_seq)
      | (apply J_region)
      | (apply J_skip)
      | (apply al_none (t := 3); refine JL_o (by apply as_box; exact OpR_box' hs rfl) rfl rfl ?_; rintro _ _ ⟨b3, rfl, hb3, hs, hE⟩)
      | (apply al_none (t := 7); refine JL_o (by apply as_alloc; exact OpR_alloc' hs) rfl rfl ?_; rintro _ _ ⟨b7, rfl, hb7, hs, hE⟩)
      | (apply ax_n; refine JX_n (t := 8) rfl (fun W L hs => by apply as_alloc; exact OpR_alloc' hs) rfl ?_)
      | (apply ax_k; (first | refine JX_k (t := 8) ?_ | refine JX_k2 (t := 8) rfl ?_); intro b8)
      | (apply ax_n; refine JX_n (t := 9) rfl (fun W L hs => by apply as_alloc; exact OpR_alloc' hs) rfl ?_)
      | (apply ax_k; (first | refine JX_k (t := 9) ?_ | refine JX_k2 (t := 9) rfl ?_); intro b9)
      | (apply al_unit; refine JL_u (by apply as_store; exact OpR_store' hs rfl rfl rfl) rfl ?_; rintro _ _ ⟨hs, hF⟩)
      | (apply aj_cond; refine J_cond_f rfl (by first | assumption | rfl | exact decide_eq_true (by first | assumption | omega) | exact decide_eq_false (by first | assumption | omega)) ?_)
      | (apply aj_draw; first
    | (refine J_drawX (id := 4) [0, 1, 0, 4, 15, 0, 0, 127, 255] [(0, 0), (2, 0), (3, 0), (5, 2), (6, 2), (1, 1), (4, 1), (5, 3), (6, 3)] [7, 8] hs mixed (by kernel_rfl) (by kernel_rfl) (by kernel_rfl) (by kernel_rfl) (by kernel_rfl) ?_)
    | (refine J_drawX (id := 7) [0, 1, 0, 7, 15, 31, 63, 127, 255, 511, 1023, 2047, 4095, 8191, 8191, 32767, 8191, 8191, 262143, 524287, 1048575] [(0, 0), (1, 0), (2, 0), (3, 0), (4, 0), (5, 0), (6, 0), (7, 0), (8, 0), (9, 0), (10, 0), (11, 0), (12, 0), (13, 0), (14, 0), (16, 0), (17, 0), (15, 1), (18, 1), (19, 0), (20, 0)] [] hs mixed (by kernel_rfl) (by kernel_rfl) (by kernel_rfl) (by kernel_rfl) (by kernel_rfl) ?_))
      | (refine JX_done (fun W hs => ?_))
      | (refine JX_f_off rfl rfl (by first | assumption | rfl | exact decide_eq_true (by first | assumption | omega) | exact decide_eq_false (by first | assumption | omega)) rfl ?_)
      | (apply JD_done)
      | (apply JD_tail; case' hos => (simp only [List.map_cons, List.map_nil, List.getElem?_toArray, List.getElem?_cons_succ, List.getElem?_cons_zero]; repeat' (first | exact ms_nil | apply ms_cons))))
    · refine unhold ?_
      repeat' (first
        | (apply J_block))
      refine J_loopK (α := Nat) [(2, _), (7, _), (8, _), (10, _), (58, _), (59, _)] (fun k => [(60, .int .i64 k)]) (fun k w' => St w NoF w' [Blk b8 (.cells #[.slice ac zs.length cc] 24 (0, 0)), Row ac zs.length cc 34 2 (cSp zs), Blk b7 (.cells #[.slice a1 n1 c1] 24 (0, 0))] ∧ k ≤ nn) (fun k => nn - k) 0 ⟨hs.sel [1, 3, 4] (by decide), by omega⟩ (by repeat' (first | exact trivial | exact rfl | apply And.intro)) ?_
      rintro k w1 ⟨hs1, hk⟩ ih
      have hs : St w NoF w1 [_, _, _] := hs1
      by_cases hlt : k < nn
      · obtain ⟨p1, o1, rfl⟩ := hn.sl.addr (by omega)
        have hx : ns[k]? = some ns[k] := List.getElem?_eq_getElem (by omega)
        obtain ⟨x, hxd⟩ : ∃ x, x = ns[k] := ⟨_, rfl⟩
        rw [← hxd] at hx
        have hxo : inK .i64 x := (hn.sl.int hx rfl).2
        by_cases hk8 : k = 8
        · subst hk8
          repeat' (first
            | (apply JL_nil)
            | ((apply JL_pure); (first
      | (apply as_load; first | exact OpR_load' hs rfl rfl is_rfl | exact OpR_load_agg' hs rfl is_rfl | exact OpR_load_int (hn.st hs).sl rfl hx is_rfl)
      | (apply as_move; exact OpR_move rfl is_rfl)
      | (apply as_assign; exact OpR_assign rfl is_rfl)
      | (apply as_binOp; exact OpR_ibin rfl rfl rfl is_rfl)
      | (apply as_indexAddr; exact OpR_indexAddr rfl rfl (by omega) (by omega) is_rfl)); first | (exact rfl; exact rfl) | exact rfl)
            | (apply J_seq)
            | (apply J_region)
            | (apply J_block)
            | (apply aj_exit; refine J_exit rfl ?_)
            | (apply J_skip)
            | (apply aj_cond; refine J_dec_t rfl (by first | assumption | omega) ?_))
          refine hcont () _ _ hs (by repeat' (first | exact trivial | exact rfl | apply And.intro))
        · obtain ⟨s, hsd⟩ : ∃ s, s = atF zs x := ⟨_, rfl⟩
          obtain ⟨l, hld⟩ : ∃ l, l = rowsF zs x := ⟨_, rfl⟩
          have hll : decide (enL l = enL l) = true := by simp
          have ha : atM zs x = s := by rw [hsd]; unfold atF; rw [if_pos hr]
          have hrm : rowsM zs x = l := by rw [hld]; unfold rowsF; rw [if_pos hr]
          have hsp := at_spot hV x
          rw [ha] at hsp
          have hb1 : (decide (¬ (s.1 = 0 ∧ s.2 = 0)) != decide (0 < s.1)) = false := by
            unfold spotR at hsp; rw [decide_eq_true_eq] at hsp
            by_cases h0 : 0 < s.1
            · rw [decide_eq_true h0, decide_eq_true (by omega)]; rfl
            · rw [decide_eq_false h0, decide_eq_false (by omega)]; rfl
          repeat' (first
            | ((apply al_call 14; refine JL_o (by exact OpR_callF en14 rfl (At_r _ (hG.st hs) ac zs.length cc zs x (RowV.sp (hs.row ac zs.length cc) hzok) hxo)) rfl rfl ?_; rintro _ _ ⟨rfl, hE⟩; rw [← hsd]; have hs := hs.ext hE; (try simp only [List.cons_append, List.nil_append] at hs)))
            | ((apply al_call 15; refine JL_o (by exact OpR_callF en15 rfl (Rows_r _ (hG.st hs) ac zs.length cc zs x (RowV.sp (hs.row ac zs.length cc) hzok))) rfl rfl ?_; rintro _ _ ⟨al, cl, rfl, hf⟩; rw [← hld] at hf ⊢; have hs := hs.fresh hf; (try simp only [List.cons_append, List.nil_append] at hs)))
            | ((apply ax_c; apply JX_cF 16; exact rfl; (intro W X hN hs; exact OpR_callF en16 rfl (refAt_r _ ac zs.length cc zs x (RowV.sp (hs.row ac zs.length cc) hzok) hxo)); (rintro _ _ _ _ ⟨rfl, hE⟩; first | exact hE | exact Fresh.ext hf); rintro W X _ _ hN hs ⟨rfl, hE⟩; rw [ha]; have hs := hs.ext hE; (try simp only [List.cons_append, List.nil_append] at hs); refine JX.at hs ?_))
            | ((apply ax_c; apply JX_cF 17; exact rfl; (intro W X hN hs; exact OpR_callF en17 rfl (refRows_r _ ac zs.length cc zs x (RowV.sp (hs.row ac zs.length cc) hzok) (by omega))); (rintro _ _ _ _ ⟨aq, cq, rfl, hf⟩; first | exact hE | exact Fresh.ext hf); rintro W X _ _ hN hs ⟨aq, cq, rfl, hf⟩; rw [hrm] at hf ⊢; have hs := hs.fresh hf; (try simp only [List.cons_append, List.nil_append] at hs); refine JX.at hs ?_))
            | ((apply al_callg 18; refine JL_o_on rfl (by first | assumption | rfl | exact decide_eq_true (by first | assumption | omega) | exact decide_eq_false (by first | assumption | omega)) (by exact OpR_callF en18 rfl (equal18_r _ al aq l.length cl l.length cq (enL l) (enL l) (slRows2 hld (hs.row al l.length cl)) (slRows2 hld (hs.row aq l.length cq)))) rfl rfl ?_; rintro _ _ ⟨rfl, hE⟩; rw [hll]; have hs := hs.ext hE; (try simp only [List.cons_append, List.nil_append] at hs)))
            | (apply JL_nil)
            | ((first | (apply JL_pure) | (apply JL_pure_on; exact rfl; (first | assumption | exact rfl | exact decide_eq_true (by first | assumption | omega) | exact decide_eq_false (by first | assumption | omega))) | (apply JX_f; exact rfl; intro W X hs)); (first
      | (apply as_load; first | exact OpR_load' hs rfl rfl is_rfl | exact OpR_load_agg' hs rfl is_rfl | exact OpR_load_int (hn.st hs).sl rfl hx is_rfl)
      | (apply as_move; exact OpR_move rfl is_rfl)
      | (apply as_assign; exact OpR_assign rfl is_rfl)
      | (apply as_fieldAddr; exact OpR_fieldAddr0 rfl rfl is_rfl)
      | (apply as_add; exact OpR_addn rfl rfl (by omega) (by first | (simp only [Int.reduceAdd]; exact rfl) | exact rfl) is_rfl)
      | (apply as_binOp; first | exact OpR_ibin rfl rfl rfl is_rfl | exact OpR_bne rfl rfl is_rfl | exact OpR_neT rfl rfl is_rfl)
      | (apply as_unOp; exact OpR_not rfl is_rfl)
      | (apply as_pick; exact OpR_pick_f rfl (by first | assumption | rfl | exact decide_eq_true (by first | assumption | omega) | exact decide_eq_false (by first | assumption | omega)) rfl is_rfl)
      | (apply as_extract; exact OpR_extract rfl rfl is_rfl)
      | (apply as_indexAddr; exact OpR_indexAddr rfl rfl (by omega) (by omega) is_rfl)); first | (exact rfl; exact rfl) | exact rfl)
            | (apply J_seq)
            | (apply J_region)
            | (apply J_block)
            | (apply J_inBlock)
            | (apply J_skip)
            | (apply al_none (t := 14); refine JL_o (by apply as_alloc; exact OpR_alloc' hs) rfl rfl ?_; rintro _ _ ⟨b14, rfl, hb14, hs, hE⟩)
            | (apply al_none (t := 17); refine JL_o (by apply as_alloc; exact OpR_alloc' hs) rfl rfl ?_; rintro _ _ ⟨b17, rfl, hb17, hs, hE⟩)
            | (apply al_unit; refine JL_u (by apply as_store; exact OpR_store' hs rfl rfl rfl) rfl ?_; rintro _ _ ⟨hs, hF⟩)
            | (apply aj_cond; first | refine J_dec_t rfl (by first | assumption | omega) ?_ | refine J_dec_f rfl (by first | assumption | omega) ?_ | refine J_cond_t rfl (by first | assumption | rfl | exact decide_eq_true (by first | assumption | omega) | exact decide_eq_false (by first | assumption | omega)) ?_ | refine J_cond_f rfl (by first | assumption | rfl | exact decide_eq_true (by first | assumption | omega) | exact decide_eq_false (by first | assumption | omega)) ?_)
            | (apply aj_draw; (refine J_drawX (id := 18) [0, 0, 3, 0, 0, 31, 63, 127] [(0, 0), (1, 0), (3, 0), (4, 0), (2, 1), (5, 1)] [6, 7] hs mixed (by kernel_rfl) (by kernel_rfl) (by kernel_rfl) (by kernel_rfl) (by kernel_rfl) ?_))
            | (refine JX_done (fun W hs => ?_))
            | (apply JD_tail; case' hos => (simp only [List.map_cons, List.map_nil, List.getElem?_toArray, List.getElem?_cons_succ, List.getElem?_cons_zero]; repeat' (first | exact ms_nil | apply ms_cons))))
          refine ih (k + 1) _ _ ⟨hs.sel [4, 5, 6] (by decide), by omega⟩ (by omega) (by repeat' (first | exact trivial | exact rfl | apply And.intro))
      · repeat' (first
          | (apply JL_nil)
          | ((apply JL_pure); (apply as_binOp; exact OpR_ibin rfl rfl rfl is_rfl); first | (exact rfl; exact rfl) | exact rfl)
          | (apply J_seq)
          | (apply J_region)
          | (apply aj_exit; refine J_exit rfl ?_)
          | (apply aj_cond; refine J_dec_f rfl (by first | assumption | omega) ?_))
        refine hcont () _ _ hs (by repeat' (first | exact trivial | exact rfl | apply And.intro))
    · refine unhold ?_
      rintro _ w2 hs2
      have hs : St w NoF w2 [_, _, _] := hs2
      repeat' (first
        | (apply JL_nil)
        | ((apply JL_pure); (first
      | (apply as_move; exact OpR_move rfl is_rfl)
      | (apply as_b_len; exact OpR_len rfl is_rfl)); first | (exact rfl; exact rfl) | exact rfl)
        | (apply J_seq)
        | (apply J_region)
        | (apply J_block))
      refine J_loopK (α := Nat) [(7, _), (8, _), (10, _), (100, _), (101, _)] (fun k => [(102, .int .i64 k)]) (fun k w' => St w NoF w' [Blk b8 (.cells #[.slice ac zs.length cc] 24 (0, 0)), Row ac zs.length cc 34 2 (cSp zs), Blk b7 (.cells #[.slice a1 n1 c1] 24 (0, 0))] ∧ k ≤ np) (fun k => np - k) 0 ⟨hs, by omega⟩ (by repeat' (first | exact trivial | exact rfl | apply And.intro)) ?_
      rintro k w3 ⟨hs3, hk⟩ ih
      have hs : St w NoF w3 [_, _, _] := hs3
      by_cases hlt : k < np
      · obtain ⟨p1, o1, rfl⟩ := hp.sl.addr (by omega)
        have hx : ss[k]? = some ss[k] := List.getElem?_eq_getElem (by omega)
        obtain ⟨x, hxd⟩ : ∃ x, x = ss[k] := ⟨_, rfl⟩
        rw [← hxd] at hx
        by_cases hk8 : k = 8
        · subst hk8
          repeat' (first
            | ((apply ax_c; apply JX_cF 9; exact rfl; (intro W X hN hs; exact OpR_callF en9 rfl (own_r _ a1 n1 c1 xs1 (h1.st hs))); (rintro _ _ _ _ ⟨ad, cd, rfl, hf⟩; first | exact hE | exact Fresh.ext hf); rintro W X _ _ hN hs ⟨ad, cd, rfl, hf⟩; rw [← hzs] at hf ⊢; have hs := hs.fresh hf; (try simp only [List.cons_append, List.nil_append] at hs); refine JX.at hs ?_))
            | ((apply ax_c; apply JX_cF 13; exact rfl; (intro W X hN hs; exact OpR_callF en13 rfl (same13_r _ ac ad zs.length cc zs.length cd zs zs (RowV.sp (hs.row ac zs.length cc) hzok) (RowV.sp (hs.row ad zs.length cd) hzok))); (rintro _ _ _ _ ⟨rfl, hE⟩; first | exact hE | exact Fresh.ext hf); rintro W X _ _ hN hs ⟨rfl, hE⟩; rw [e9]; have hs := hs.ext hE; (try simp only [List.cons_append, List.nil_append] at hs); refine JX.at hs ?_))
            | (apply JL_nil)
            | ((first | (apply JL_pure) | (apply JX_f; exact rfl; intro W X hs)); (first
      | (apply as_load; first | exact OpR_load' hs rfl rfl is_rfl | exact OpR_load_agg' hs rfl is_rfl | exact OpR_load_el (hp.st hs) hx rfl rfl is_rfl)
      | (apply as_move; exact OpR_move rfl is_rfl)
      | (apply as_assign; exact OpR_assign rfl is_rfl)
      | (apply as_binOp; exact OpR_ibin rfl rfl rfl is_rfl)
      | (apply as_indexAddr; exact OpR_indexAddr rfl rfl (by omega) (by omega) is_rfl)); first | (exact rfl; exact rfl) | exact rfl)
            | (apply J_seq)
            | (apply J_region)
            | (apply J_block)
            | (apply aj_exit; refine J_exit rfl ?_)
            | (apply J_skip)
            | (apply al_none (t := 20); refine JL_o (by apply as_alloc; exact OpR_alloc' hs) rfl rfl ?_; rintro _ _ ⟨b20, rfl, hb20, hs, hE⟩)
            | (apply al_unit; refine JL_u (by apply as_store; exact OpR_store' hs rfl rfl rfl) rfl ?_; rintro _ _ ⟨hs, hF⟩)
            | (apply aj_cond; refine J_dec_t rfl (by first | assumption | omega) ?_)
            | (apply aj_draw; (refine J_drawX (id := 33) [0, 0, 2, 7, 15] [(0, 0), (1, 0), (2, 1), (3, 1), (4, 0)] [] hs mixed (by kernel_rfl) (by kernel_rfl) (by kernel_rfl) (by kernel_rfl) (by kernel_rfl) ?_))
            | (refine JX_done (fun W hs => ?_))
            | (apply JD_done))
          refine J_leave Tryd.func3 rfl (.tmp rfl .nil) ⟨rfl, hs.frm.ext⟩
        · obtain ⟨q, hqd⟩ : ∃ q, q = (if rightB zs = true then whoM zs (x.1, x.2) else 0) := ⟨_, rfl⟩
          have hrw : refWhoM zs (x.1, x.2) = q := by rw [hqd, if_pos hr]; exact who_ref2 hV _
          have hb1 : (decide (0 < q) != decide (0 < (q : Int))) = false := by
            by_cases h0 : 0 < q
            · rw [decide_eq_true h0, decide_eq_true (by omega)]; rfl
            · rw [decide_eq_false h0, decide_eq_false (by omega)]; rfl
          repeat' (first
            | ((apply al_call 19; refine JL_o (by exact OpR_callF en19 rfl (Who_r _ (hG.st hs) ac zs.length cc zs x.1 x.2 (RowV.sp (hs.row ac zs.length cc) hzok))) rfl rfl ?_; rintro _ _ ⟨rfl, hE⟩; rw [← hqd]; have hs := hs.ext hE; (try simp only [List.cons_append, List.nil_append] at hs)))
            | ((apply al_call 20; refine JL_o (by exact OpR_callF en20 rfl (refWho_r _ ac zs.length cc zs x.1 x.2 (RowV.sp (hs.row ac zs.length cc) hzok))) rfl rfl ?_; rintro _ _ ⟨rfl, hE⟩; rw [hrw]; have hs := hs.ext hE; (try simp only [List.cons_append, List.nil_append] at hs)))
            | (apply JL_nil)
            | ((first | (apply JL_pure) | (apply JL_pure_on; exact rfl; (first | assumption | exact rfl | exact decide_eq_true (by first | assumption | omega) | exact decide_eq_false (by first | assumption | omega)))); (first
      | (apply as_load; first | exact OpR_load' hs rfl rfl is_rfl | exact OpR_load_agg' hs rfl is_rfl | exact OpR_load_el (hp.st hs) hx rfl rfl is_rfl)
      | (apply as_move; exact OpR_move rfl is_rfl)
      | (apply as_assign; exact OpR_assign rfl is_rfl)
      | (apply as_add; exact OpR_addn rfl rfl (by omega) (by first | (simp only [Int.reduceAdd]; exact rfl) | exact rfl) is_rfl)
      | (apply as_binOp; first | exact OpR_ibin rfl rfl rfl is_rfl | exact OpR_bne rfl rfl is_rfl)
      | (apply as_pick; exact OpR_pick_f rfl (by first | assumption | rfl | exact decide_eq_true (by first | assumption | omega) | exact decide_eq_false (by first | assumption | omega)) rfl is_rfl)
      | (apply as_extract; exact OpR_extract rfl rfl is_rfl)
      | (apply as_indexAddr; exact OpR_indexAddr rfl rfl (by omega) (by omega) is_rfl)); first | (exact rfl; exact rfl) | exact rfl)
            | (apply J_seq)
            | (apply J_region)
            | (apply J_block)
            | (apply J_inBlock)
            | (apply J_skip)
            | (apply al_none (t := 20); refine JL_o (by apply as_alloc; exact OpR_alloc' hs) rfl rfl ?_; rintro _ _ ⟨b20, rfl, hb20, hs, hE⟩)
            | (apply al_unit; refine JL_u (by apply as_store; exact OpR_store' hs rfl rfl rfl) rfl ?_; rintro _ _ ⟨hs, hF⟩)
            | (apply aj_cond; first | refine J_dec_t rfl (by first | assumption | omega) ?_ | refine J_dec_f rfl (by first | assumption | omega) ?_ | refine J_cond_t rfl (by first | assumption | rfl | exact decide_eq_true (by first | assumption | omega) | exact decide_eq_false (by first | assumption | omega)) ?_ | refine J_cond_f rfl (by first | assumption | rfl | exact decide_eq_true (by first | assumption | omega) | exact decide_eq_false (by first | assumption | omega)) ?_))
          refine ih (k + 1) _ _ ⟨hs.sel [1, 2, 3] (by decide), by omega⟩ (by omega) (by repeat' (first | exact trivial | exact rfl | apply And.intro))
      · repeat' (first
          | ((apply ax_c; apply JX_cF 9; exact rfl; (intro W X hN hs; exact OpR_callF en9 rfl (own_r _ a1 n1 c1 xs1 (h1.st hs))); (rintro _ _ _ _ ⟨ad, cd, rfl, hf⟩; first | exact hE | exact Fresh.ext hf); rintro W X _ _ hN hs ⟨ad, cd, rfl, hf⟩; rw [← hzs] at hf ⊢; have hs := hs.fresh hf; (try simp only [List.cons_append, List.nil_append] at hs); refine JX.at hs ?_))
          | ((apply ax_c; apply JX_cF 13; exact rfl; (intro W X hN hs; exact OpR_callF en13 rfl (same13_r _ ac ad zs.length cc zs.length cd zs zs (RowV.sp (hs.row ac zs.length cc) hzok) (RowV.sp (hs.row ad zs.length cd) hzok))); (rintro _ _ _ _ ⟨rfl, hE⟩; first | exact hE | exact Fresh.ext hf); rintro W X _ _ hN hs ⟨rfl, hE⟩; rw [e9]; have hs := hs.ext hE; (try simp only [List.cons_append, List.nil_append] at hs); refine JX.at hs ?_))
          | (apply JL_nil)
          | ((first | (apply JL_pure) | (apply JX_f; exact rfl; intro W X hs)); (first
      | (apply as_assign; exact OpR_assign rfl is_rfl)
      | (apply as_load; exact OpR_load_agg' hs rfl is_rfl)
      | (apply as_binOp; exact OpR_ibin rfl rfl rfl is_rfl)); first | (exact rfl; exact rfl) | exact rfl)
          | (apply J_seq)
          | (apply J_region)
          | (apply aj_exit; refine J_exit rfl ?_)
          | (apply aj_cond; refine J_dec_f rfl (by first | assumption | omega) ?_)
          | (apply aj_draw; (refine J_drawX (id := 33) [0, 0, 2, 7, 15] [(0, 0), (1, 0), (2, 1), (3, 1), (4, 0)] [] hs mixed (by kernel_rfl) (by kernel_rfl) (by kernel_rfl) (by kernel_rfl) (by kernel_rfl) ?_))
          | (refine JX_done (fun W hs => ?_))
          | (apply JD_done))
        refine J_leave Tryd.func3 rfl (.tmp rfl .nil) ⟨rfl, hs.frm.ext⟩
  | false =>
    repeat' (first
      | ((apply aj_block 0; refine J_cutK (γ := Unit) [(2, _), (7, _), (8, _), (10, _), (58, _), (59, _)] (by repeat' (first | exact trivial | exact rfl | apply And.intro)) (fun _ => []) (fun _ w' => St w NoF w' [Blk b8 (.cells #[.slice ac zs.length cc] 24 (0, 0)), Row ac zs.length cc 34 2 (cSp zs), Blk b7 (.cells #[.slice a1 n1 c1] 24 (0, 0))]) (fun R k hcont => hold ?_) (hold ?_)))
      | ((apply al_call 8; refine JL_o (by exact OpR_callF en8 rfl (wakes_r _ (hG.st hs))) rfl rfl ?_; rintro _ _ ⟨rfl, hE⟩; have hs := hs.ext hE; (try simp only [List.cons_append, List.nil_append] at hs)))
      | ((apply ax_c; apply JX_cF 9; exact rfl; (intro W X hN hs; exact OpR_callF en9 rfl (own_r _ a1 n1 c1 xs1 (h1.st hs))); (rintro _ _ _ _ ⟨ac, cc, rfl, hf⟩; first | exact hE | exact Fresh.ext hf); rintro W X _ _ hN hs ⟨ac, cc, rfl, hf⟩; rw [← hzs] at hf ⊢; have hs := hs.fresh hf; (try simp only [List.cons_append, List.nil_append] at hs); refine JX.at hs ?_))
      | ((apply ax_c; apply JX_cF 9; exact rfl; (intro W X hN hs; exact OpR_callF en9 rfl (own_r _ a2 n2 c2 xs2 (h2.st hs))); (rintro _ _ _ _ ⟨ab, cb, rfl, hf⟩; first | exact hE | exact Fresh.ext hf); rintro W X _ _ hN hs ⟨ab, cb, rfl, hf⟩; rw [← hys] at hf ⊢; have hs := hs.fresh hf; (try simp only [List.cons_append, List.nil_append] at hs); refine JX.at hs ?_))
      | ((apply al_call 10; refine JL_o (by exact OpR_callF en10 rfl (right10_r _ ac zs.length cc zs (RowV.sp (hs.row ac zs.length cc) hzok))) rfl rfl ?_; rintro _ _ ⟨rfl, hE⟩; rw [hr]; have hs := hs.ext hE; (try simp only [List.cons_append, List.nil_append] at hs)))
      | ((apply al_call 11; refine JL_o (by exact OpR_callF en11 rfl (check_v (hG.st hs) (RowV.sp (hs.row ac zs.length cc) hzok) hr)) rfl rfl ?_; rintro _ _ ⟨rfl, hE⟩; have hs := hs.ext hE; (try simp only [List.cons_append, List.nil_append] at hs)))
      | ((apply ax_c; apply JX_cFg 12; exact rfl; exact rfl; exact (by first | assumption | rfl | exact decide_eq_true (by first | assumption | omega) | exact decide_eq_false (by first | assumption | omega)); (intro W X hN hs; exact OpR_callF en12 rfl (same12_r _ ac ab zs.length cc ys.length cb zs ys (RowV.sp (hs.row ac zs.length cc) hzok) (RowV.sp (hs.row ab ys.length cb) hyok))); (rintro _ _ _ _ ⟨rfl, hE⟩; first | exact hE | exact Fresh.ext hf); rintro W X _ _ hN hs ⟨rfl, hE⟩; have hs := hs.ext hE; (try simp only [List.cons_append, List.nil_append] at hs); refine JX.at hs ?_))
      | ((apply ax_c; apply JX_cFg 13; exact rfl; exact rfl; exact (by first | assumption | rfl | exact decide_eq_true (by first | assumption | omega) | exact decide_eq_false (by first | assumption | omega)); (intro W X hN hs; exact OpR_callF en13 rfl (same13_r _ ac ab zs.length cc ys.length cb zs ys (RowV.sp (hs.row ac zs.length cc) hzok) (RowV.sp (hs.row ab ys.length cb) hyok))); (rintro _ _ _ _ ⟨rfl, hE⟩; first | exact hE | exact Fresh.ext hf); rintro W X _ _ hN hs ⟨rfl, hE⟩; have hs := hs.ext hE; (try simp only [List.cons_append, List.nil_append] at hs); refine JX.at hs ?_))
      | (apply JL_nil)
      | ((first | (apply JL_pure) | (apply JX_f; exact rfl; intro W X hs) | (apply JX_f_on; exact rfl; exact rfl; (first | assumption | exact rfl | exact decide_eq_true (by first | assumption | omega) | exact decide_eq_false (by first | assumption | omega)); intro W X hs)); (first
      | (apply as_move; exact OpR_move rfl is_rfl)
      | (apply as_assign; exact OpR_assign rfl is_rfl)
      | (apply as_load; exact OpR_load_agg' hs rfl is_rfl)
      | (apply as_binOp; first | exact OpR_ibin rfl rfl rfl is_rfl | exact OpR_bne rfl rfl is_rfl)
      | (apply as_unOp; exact OpR_not rfl is_rfl)
      | (apply as_pick; first | exact OpR_pick_t rfl (by first | assumption | rfl | exact decide_eq_true (by first | assumption | omega) | exact decide_eq_false (by first | assumption | omega)) rfl is_rfl | exact OpR_pick_f rfl (by first | assumption | rfl | exact decide_eq_true (by first | assumption | omega) | exact decide_eq_false (by first | assumption | omega)) rfl is_rfl)
      | (apply as_b_len; exact OpR_len rfl is_rfl)
      | (apply as_indexAddr; exact OpR_indexAddr_arr' rfl rfl (by omega) (by omega) (by first | (simp only [Int.reduceToNat, Nat.reduceMul, Nat.reduceAdd]; exact rfl) | exact rfl) is_rfl)); first | (exact rfl; exact rfl) | exact rfl)
      | (apply J_seq)
      | (apply J_region)
      | (apply J_skip)
      | (apply al_none (t := 3); refine JL_o (by apply as_box; exact OpR_box' hs rfl) rfl rfl ?_; rintro _ _ ⟨b3, rfl, hb3, hs, hE⟩)
      | (apply al_none (t := 7); refine JL_o (by apply as_alloc; exact OpR_alloc' hs) rfl rfl ?_; rintro _ _ ⟨b7, rfl, hb7, hs, hE⟩)
      | (apply ax_n; refine JX_n (t := 8) rfl (fun W L hs => by apply as_alloc; exact OpR_alloc' hs) rfl ?_)
      | (apply ax_k; (first | refine JX_k (t := 8) ?_ | refine JX_k2 (t := 8) rfl ?_); intro b8)
      | (apply ax_n; refine JX_n (t := 9) rfl (fun W L hs => by apply as_alloc; exact OpR_alloc' hs) rfl ?_)
      | (apply ax_k; (first | refine JX_k (t := 9) ?_ | refine JX_k2 (t := 9) rfl ?_); intro b9)
      | (apply al_unit; refine JL_u (by apply as_store; exact OpR_store' hs rfl rfl rfl) rfl ?_; rintro _ _ ⟨hs, hF⟩)
      | (apply aj_cond; refine J_cond_f rfl (by first | assumption | rfl | exact decide_eq_true (by first | assumption | omega) | exact decide_eq_false (by first | assumption | omega)) ?_)
      | (apply aj_draw; first
    | (refine J_drawX (id := 4) [0, 1, 0, 4, 15, 0, 0, 127, 255] [(0, 0), (2, 0), (3, 0), (5, 2), (6, 2), (1, 1), (4, 1), (5, 3), (6, 3)] [7, 8] hs mixed (by kernel_rfl) (by kernel_rfl) (by kernel_rfl) (by kernel_rfl) (by kernel_rfl) ?_)
    | (refine J_drawX (id := 7) [0, 1, 0, 7, 15, 31, 63, 127, 255, 511, 1023, 2047, 4095, 8191, 8191, 32767, 8191, 8191, 262143, 524287, 1048575] [(0, 0), (1, 0), (2, 0), (3, 0), (4, 0), (5, 0), (6, 0), (7, 0), (8, 0), (9, 0), (10, 0), (11, 0), (12, 0), (13, 0), (14, 0), (16, 0), (17, 0), (15, 1), (18, 1), (19, 0), (20, 0)] [] hs mixed (by kernel_rfl) (by kernel_rfl) (by kernel_rfl) (by kernel_rfl) (by kernel_rfl) ?_))
      | (refine JX_done (fun W hs => ?_))
      | (apply JD_done)
      | (apply JD_tail; case' hos => (simp only [List.map_cons, List.map_nil, List.getElem?_toArray, List.getElem?_cons_succ, List.getElem?_cons_zero]; repeat' (first | exact ms_nil | apply ms_cons))))
    · refine unhold ?_
      repeat' (first
        | (apply J_block))
      refine J_loopK (α := Nat) [(2, _), (7, _), (8, _), (10, _), (58, _), (59, _)] (fun k => [(60, .int .i64 k)]) (fun k w' => St w NoF w' [Blk b8 (.cells #[.slice ac zs.length cc] 24 (0, 0)), Row ac zs.length cc 34 2 (cSp zs), Blk b7 (.cells #[.slice a1 n1 c1] 24 (0, 0))] ∧ k ≤ nn) (fun k => nn - k) 0 ⟨hs.sel [1, 3, 4] (by decide), by omega⟩ (by repeat' (first | exact trivial | exact rfl | apply And.intro)) ?_
      rintro k w1 ⟨hs1, hk⟩ ih
      have hs : St w NoF w1 [_, _, _] := hs1
      by_cases hlt : k < nn
      · obtain ⟨p1, o1, rfl⟩ := hn.sl.addr (by omega)
        have hx : ns[k]? = some ns[k] := List.getElem?_eq_getElem (by omega)
        obtain ⟨x, hxd⟩ : ∃ x, x = ns[k] := ⟨_, rfl⟩
        rw [← hxd] at hx
        have hxo : inK .i64 x := (hn.sl.int hx rfl).2
        by_cases hk8 : k = 8
        · subst hk8
          repeat' (first
            | (apply JL_nil)
            | ((apply JL_pure); (first
      | (apply as_load; first | exact OpR_load' hs rfl rfl is_rfl | exact OpR_load_agg' hs rfl is_rfl | exact OpR_load_int (hn.st hs).sl rfl hx is_rfl)
      | (apply as_move; exact OpR_move rfl is_rfl)
      | (apply as_assign; exact OpR_assign rfl is_rfl)
      | (apply as_binOp; exact OpR_ibin rfl rfl rfl is_rfl)
      | (apply as_indexAddr; exact OpR_indexAddr rfl rfl (by omega) (by omega) is_rfl)); first | (exact rfl; exact rfl) | exact rfl)
            | (apply J_seq)
            | (apply J_region)
            | (apply J_block)
            | (apply aj_exit; refine J_exit rfl ?_)
            | (apply J_skip)
            | (apply aj_cond; refine J_dec_t rfl (by first | assumption | omega) ?_))
          refine hcont () _ _ hs (by repeat' (first | exact trivial | exact rfl | apply And.intro))
        · obtain ⟨s, hsd⟩ : ∃ s, s = atF zs x := ⟨_, rfl⟩
          obtain ⟨l, hld⟩ : ∃ l, l = rowsF zs x := ⟨_, rfl⟩
          have hll : decide (enL l = enL l) = true := by simp
          have hs1z : s.1 = 0 := by rw [hsd]; unfold atF; rw [hr]; rfl
          have hs2z : s.2 = 0 := by rw [hsd]; unfold atF; rw [hr]; rfl
          have hl0 : l = [] := by rw [hld]; unfold rowsF; rw [hr]; rfl
          have hb1 : (decide (¬ (s.1 = 0 ∧ s.2 = 0)) != decide ((0 : Int) < 0)) = false := by
            rw [decide_eq_false (by omega : ¬ ¬ (s.1 = 0 ∧ s.2 = 0))]; rfl
          have hll2 : decide (enL l = enL []) = true := by rw [hl0]; simp
          repeat' (first
            | ((apply al_call 14; refine JL_o (by exact OpR_callF en14 rfl (At_r _ (hG.st hs) ac zs.length cc zs x (RowV.sp (hs.row ac zs.length cc) hzok) hxo)) rfl rfl ?_; rintro _ _ ⟨rfl, hE⟩; rw [← hsd]; have hs := hs.ext hE; (try simp only [List.cons_append, List.nil_append] at hs)))
            | ((apply al_call 15; refine JL_o (by exact OpR_callF en15 rfl (Rows_r _ (hG.st hs) ac zs.length cc zs x (RowV.sp (hs.row ac zs.length cc) hzok))) rfl rfl ?_; rintro _ _ ⟨al, cl, rfl, hf⟩; rw [← hld] at hf ⊢; have hs := hs.fresh hf; (try simp only [List.cons_append, List.nil_append] at hs)))
            | ((apply al_callg 18; refine JL_o_on rfl (by first | assumption | rfl | exact decide_eq_true (by first | assumption | omega) | exact decide_eq_false (by first | assumption | omega)) (by exact OpR_callF en18 rfl (equal18_r _ al none l.length cl 0 0 (enL l) (enL []) (slRows2 hld (hs.row al l.length cl)) (slNil _))) rfl rfl ?_; rintro _ _ ⟨rfl, hE⟩; rw [hll2]; have hs := hs.ext hE; (try simp only [List.cons_append, List.nil_append] at hs)))
            | (apply JL_nil)
            | ((first | (apply JL_pure) | (apply JL_pure_on; exact rfl; (first | assumption | exact rfl | exact decide_eq_true (by first | assumption | omega) | exact decide_eq_false (by first | assumption | omega)))); (first
      | (apply as_load; first | exact OpR_load' hs rfl rfl is_rfl | exact OpR_load_agg' hs rfl is_rfl | exact OpR_load_int (hn.st hs).sl rfl hx is_rfl)
      | (apply as_move; exact OpR_move rfl is_rfl)
      | (apply as_assign; exact OpR_assign rfl is_rfl)
      | (apply as_fieldAddr; exact OpR_fieldAddr0 rfl rfl is_rfl)
      | (apply as_add; exact OpR_addn rfl rfl (by omega) (by first | (simp only [Int.reduceAdd]; exact rfl) | exact rfl) is_rfl)
      | (apply as_binOp; first | exact OpR_ibin rfl rfl rfl is_rfl | exact OpR_bne rfl rfl is_rfl | exact OpR_neT rfl rfl is_rfl)
      | (apply as_unOp; exact OpR_not rfl is_rfl)
      | (apply as_pick; exact OpR_pick_f rfl (by first | assumption | rfl | exact decide_eq_true (by first | assumption | omega) | exact decide_eq_false (by first | assumption | omega)) rfl is_rfl)
      | (apply as_extract; exact OpR_extract rfl rfl is_rfl)
      | (apply as_indexAddr; exact OpR_indexAddr rfl rfl (by omega) (by omega) is_rfl)); first | (exact rfl; exact rfl) | exact rfl)
            | (apply J_seq)
            | (apply J_region)
            | (apply J_block)
            | (apply J_inBlock)
            | (apply J_skip)
            | (apply al_none (t := 14); refine JL_o (by apply as_alloc; exact OpR_alloc' hs) rfl rfl ?_; rintro _ _ ⟨b14, rfl, hb14, hs, hE⟩)
            | (apply al_none (t := 17); refine JL_o (by apply as_alloc; exact OpR_alloc' hs) rfl rfl ?_; rintro _ _ ⟨b17, rfl, hb17, hs, hE⟩)
            | (apply al_unit; refine JL_u (by apply as_store; exact OpR_store' hs rfl rfl rfl) rfl ?_; rintro _ _ ⟨hs, hF⟩)
            | (apply aj_cond; first | refine J_dec_t rfl (by first | assumption | omega) ?_ | refine J_dec_f rfl (by first | assumption | omega) ?_ | refine J_cond_f rfl (by first | assumption | rfl | exact decide_eq_true (by first | assumption | omega) | exact decide_eq_false (by first | assumption | omega)) ?_))
          refine ih (k + 1) _ _ ⟨hs.sel [3, 4, 5] (by decide), by omega⟩ (by omega) (by repeat' (first | exact trivial | exact rfl | apply And.intro))
      · repeat' (first
          | (apply JL_nil)
          | ((apply JL_pure); (apply as_binOp; exact OpR_ibin rfl rfl rfl is_rfl); first | (exact rfl; exact rfl) | exact rfl)
          | (apply J_seq)
          | (apply J_region)
          | (apply aj_exit; refine J_exit rfl ?_)
          | (apply aj_cond; refine J_dec_f rfl (by first | assumption | omega) ?_))
        refine hcont () _ _ hs (by repeat' (first | exact trivial | exact rfl | apply And.intro))
    · refine unhold ?_
      rintro _ w2 hs2
      have hs : St w NoF w2 [_, _, _] := hs2
      repeat' (first
        | (apply JL_nil)
        | ((apply JL_pure); (first
      | (apply as_move; exact OpR_move rfl is_rfl)
      | (apply as_b_len; exact OpR_len rfl is_rfl)); first | (exact rfl; exact rfl) | exact rfl)
        | (apply J_seq)
        | (apply J_region)
        | (apply J_block))
      refine J_loopK (α := Nat) [(7, _), (8, _), (10, _), (100, _), (101, _)] (fun k => [(102, .int .i64 k)]) (fun k w' => St w NoF w' [Blk b8 (.cells #[.slice ac zs.length cc] 24 (0, 0)), Row ac zs.length cc 34 2 (cSp zs), Blk b7 (.cells #[.slice a1 n1 c1] 24 (0, 0))] ∧ k ≤ np) (fun k => np - k) 0 ⟨hs, by omega⟩ (by repeat' (first | exact trivial | exact rfl | apply And.intro)) ?_
      rintro k w3 ⟨hs3, hk⟩ ih
      have hs : St w NoF w3 [_, _, _] := hs3
      by_cases hlt : k < np
      · obtain ⟨p1, o1, rfl⟩ := hp.sl.addr (by omega)
        have hx : ss[k]? = some ss[k] := List.getElem?_eq_getElem (by omega)
        obtain ⟨x, hxd⟩ : ∃ x, x = ss[k] := ⟨_, rfl⟩
        rw [← hxd] at hx
        by_cases hk8 : k = 8
        · subst hk8
          repeat' (first
            | ((apply ax_c; apply JX_cF 9; exact rfl; (intro W X hN hs; exact OpR_callF en9 rfl (own_r _ a1 n1 c1 xs1 (h1.st hs))); (rintro _ _ _ _ ⟨ad, cd, rfl, hf⟩; first | exact hE | exact Fresh.ext hf); rintro W X _ _ hN hs ⟨ad, cd, rfl, hf⟩; rw [← hzs] at hf ⊢; have hs := hs.fresh hf; (try simp only [List.cons_append, List.nil_append] at hs); refine JX.at hs ?_))
            | ((apply ax_c; apply JX_cF 13; exact rfl; (intro W X hN hs; exact OpR_callF en13 rfl (same13_r _ ac ad zs.length cc zs.length cd zs zs (RowV.sp (hs.row ac zs.length cc) hzok) (RowV.sp (hs.row ad zs.length cd) hzok))); (rintro _ _ _ _ ⟨rfl, hE⟩; first | exact hE | exact Fresh.ext hf); rintro W X _ _ hN hs ⟨rfl, hE⟩; rw [e9]; have hs := hs.ext hE; (try simp only [List.cons_append, List.nil_append] at hs); refine JX.at hs ?_))
            | (apply JL_nil)
            | ((first | (apply JL_pure) | (apply JX_f; exact rfl; intro W X hs)); (first
      | (apply as_load; first | exact OpR_load' hs rfl rfl is_rfl | exact OpR_load_agg' hs rfl is_rfl | exact OpR_load_el (hp.st hs) hx rfl rfl is_rfl)
      | (apply as_move; exact OpR_move rfl is_rfl)
      | (apply as_assign; exact OpR_assign rfl is_rfl)
      | (apply as_binOp; exact OpR_ibin rfl rfl rfl is_rfl)
      | (apply as_indexAddr; exact OpR_indexAddr rfl rfl (by omega) (by omega) is_rfl)); first | (exact rfl; exact rfl) | exact rfl)
            | (apply J_seq)
            | (apply J_region)
            | (apply J_block)
            | (apply aj_exit; refine J_exit rfl ?_)
            | (apply J_skip)
            | (apply al_none (t := 20); refine JL_o (by apply as_alloc; exact OpR_alloc' hs) rfl rfl ?_; rintro _ _ ⟨b20, rfl, hb20, hs, hE⟩)
            | (apply al_unit; refine JL_u (by apply as_store; exact OpR_store' hs rfl rfl rfl) rfl ?_; rintro _ _ ⟨hs, hF⟩)
            | (apply aj_cond; refine J_dec_t rfl (by first | assumption | omega) ?_)
            | (apply aj_draw; (refine J_drawX (id := 33) [0, 0, 2, 7, 15] [(0, 0), (1, 0), (2, 1), (3, 1), (4, 0)] [] hs mixed (by kernel_rfl) (by kernel_rfl) (by kernel_rfl) (by kernel_rfl) (by kernel_rfl) ?_))
            | (refine JX_done (fun W hs => ?_))
            | (apply JD_done))
          refine J_leave Tryd.func3 rfl (.tmp rfl .nil) ⟨rfl, hs.frm.ext⟩
        · obtain ⟨q, hqd⟩ : ∃ q, q = (if rightB zs = true then whoM zs (x.1, x.2) else 0) := ⟨_, rfl⟩
          have hq0 : q = 0 := by rw [hqd, hr]; rfl
          have hb1 : (decide (0 < q) != decide ((0 : Int) < 0)) = false := by rw [hq0]; rfl
          repeat' (first
            | ((apply al_call 19; refine JL_o (by exact OpR_callF en19 rfl (Who_r _ (hG.st hs) ac zs.length cc zs x.1 x.2 (RowV.sp (hs.row ac zs.length cc) hzok))) rfl rfl ?_; rintro _ _ ⟨rfl, hE⟩; rw [← hqd]; have hs := hs.ext hE; (try simp only [List.cons_append, List.nil_append] at hs)))
            | (apply JL_nil)
            | ((first | (apply JL_pure) | (apply JL_pure_on; exact rfl; (first | assumption | exact rfl | exact decide_eq_true (by first | assumption | omega) | exact decide_eq_false (by first | assumption | omega)))); (first
      | (apply as_load; first | exact OpR_load' hs rfl rfl is_rfl | exact OpR_load_agg' hs rfl is_rfl | exact OpR_load_el (hp.st hs) hx rfl rfl is_rfl)
      | (apply as_move; exact OpR_move rfl is_rfl)
      | (apply as_assign; exact OpR_assign rfl is_rfl)
      | (apply as_add; exact OpR_addn rfl rfl (by omega) (by first | (simp only [Int.reduceAdd]; exact rfl) | exact rfl) is_rfl)
      | (apply as_binOp; first | exact OpR_ibin rfl rfl rfl is_rfl | exact OpR_bne rfl rfl is_rfl)
      | (apply as_pick; exact OpR_pick_f rfl (by first | assumption | rfl | exact decide_eq_true (by first | assumption | omega) | exact decide_eq_false (by first | assumption | omega)) rfl is_rfl)
      | (apply as_extract; exact OpR_extract rfl rfl is_rfl)
      | (apply as_indexAddr; exact OpR_indexAddr rfl rfl (by omega) (by omega) is_rfl)); first | (exact rfl; exact rfl) | exact rfl)
            | (apply J_seq)
            | (apply J_region)
            | (apply J_block)
            | (apply J_inBlock)
            | (apply J_skip)
            | (apply al_none (t := 20); refine JL_o (by apply as_alloc; exact OpR_alloc' hs) rfl rfl ?_; rintro _ _ ⟨b20, rfl, hb20, hs, hE⟩)
            | (apply al_unit; refine JL_u (by apply as_store; exact OpR_store' hs rfl rfl rfl) rfl ?_; rintro _ _ ⟨hs, hF⟩)
            | (apply aj_cond; first | refine J_dec_t rfl (by first | assumption | omega) ?_ | refine J_dec_f rfl (by first | assumption | omega) ?_ | refine J_cond_f rfl (by first | assumption | rfl | exact decide_eq_true (by first | assumption | omega) | exact decide_eq_false (by first | assumption | omega)) ?_))
          refine ih (k + 1) _ _ ⟨hs.sel [1, 2, 3] (by decide), by omega⟩ (by omega) (by repeat' (first | exact trivial | exact rfl | apply And.intro))
      · repeat' (first
          | ((apply ax_c; apply JX_cF 9; exact rfl; (intro W X hN hs; exact OpR_callF en9 rfl (own_r _ a1 n1 c1 xs1 (h1.st hs))); (rintro _ _ _ _ ⟨ad, cd, rfl, hf⟩; first | exact hE | exact Fresh.ext hf); rintro W X _ _ hN hs ⟨ad, cd, rfl, hf⟩; rw [← hzs] at hf ⊢; have hs := hs.fresh hf; (try simp only [List.cons_append, List.nil_append] at hs); refine JX.at hs ?_))
          | ((apply ax_c; apply JX_cF 13; exact rfl; (intro W X hN hs; exact OpR_callF en13 rfl (same13_r _ ac ad zs.length cc zs.length cd zs zs (RowV.sp (hs.row ac zs.length cc) hzok) (RowV.sp (hs.row ad zs.length cd) hzok))); (rintro _ _ _ _ ⟨rfl, hE⟩; first | exact hE | exact Fresh.ext hf); rintro W X _ _ hN hs ⟨rfl, hE⟩; rw [e9]; have hs := hs.ext hE; (try simp only [List.cons_append, List.nil_append] at hs); refine JX.at hs ?_))
          | (apply JL_nil)
          | ((first | (apply JL_pure) | (apply JX_f; exact rfl; intro W X hs)); (first
      | (apply as_assign; exact OpR_assign rfl is_rfl)
      | (apply as_load; exact OpR_load_agg' hs rfl is_rfl)
      | (apply as_binOp; exact OpR_ibin rfl rfl rfl is_rfl)); first | (exact rfl; exact rfl) | exact rfl)
          | (apply J_seq)
          | (apply J_region)
          | (apply aj_exit; refine J_exit rfl ?_)
          | (apply aj_cond; refine J_dec_f rfl (by first | assumption | omega) ?_)
          | (apply aj_draw; (refine J_drawX (id := 33) [0, 0, 2, 7, 15] [(0, 0), (1, 0), (2, 1), (3, 1), (4, 0)] [] hs mixed (by kernel_rfl) (by kernel_rfl) (by kernel_rfl) (by kernel_rfl) (by kernel_rfl) ?_))
          | (refine JX_done (fun W hs => ?_))
          | (apply JD_done))
        refine J_leave Tryd.func3 rfl (.tmp rfl .nil) ⟨rfl, hs.frm.ext⟩
end Go.Eng
