/- The texts K21, joined. -/
import Derived.Test.YtcoldgkhlkjjmaaX4
/- ReferTells. -/
namespace Go.Eng
open Go.Proofs
set_option linter.unusedSimpArgs false
set_option linter.unusedVariables false
theorem encH_set0 (xs : List HH) (k : Nat) (x : HH) (v : Int) (hx : xs[k]? = some x) : splice (encL cH xs) (k * 2) [.int .i64 v] = encL cH (xs.set k (v, x.2)) := by
  have hk := (List.getElem?_eq_some_iff.1 hx).1
  have h1 : encL cH (xs.set k (v, x.2)) = splice (encL cH xs) (k * 2) (cH (v, x.2)) := encL_set (d := dHeld) xs k _ hk
  rw [h1]
  have hg : ∀ j, j < 2 → (encL cH xs)[k * 2 + j]? = (cH x)[j]? := fun j hj => encL_get (d := dHeld) xs k j x hx hj
  have hle : (encL cH xs).length = xs.length * 2 := encL_len (d := dHeld) xs
  apply List.ext_getElem?
  intro i
  unfold splice
  have e2 : ((encL cH xs).take (k * 2)).length = k * 2 := by rw [List.length_take]; omega
  simp only [List.length_cons, List.length_nil]
  by_cases c1 : i < k * 2
  · rw [List.append_assoc, List.append_assoc, List.getElem?_append_left (by omega), List.getElem?_append_left (by omega)]
  · obtain ⟨j, rfl⟩ : ∃ j, i = k * 2 + j := ⟨i - k * 2, by omega⟩
    rw [List.append_assoc, List.append_assoc, List.getElem?_append_right (l₁ := (encL cH xs).take (k * 2)) (by omega), List.getElem?_append_right (l₁ := (encL cH xs).take (k * 2)) (by omega), e2, Nat.add_sub_cancel_left]
    cases j with
    | zero => rfl
    | succ j =>
      cases j with
      | zero =>
        show ((encL cH xs).drop (k * 2 + (0 + 1)))[0]? = some (Value.int .u64 x.2)
        rw [List.getElem?_drop]
        exact hg 1 (by decide)
      | succ j =>
        show ((encL cH xs).drop (k * 2 + (0 + 1)))[j + 1]? = ((encL cH xs).drop (k * 2 + (0 + 1 + 1)))[j]?
        rw [List.getElem?_drop, List.getElem?_drop]
        congr 1
        omega
theorem ofR_under (l : List RH) (x : Int) : ofR l x = underH (allR l) x := by
  unfold ofR allR
  split
  · rfl
  · rfl
theorem hldR_hold (l : List RH) (x : Int) : hldR l x = holdM (allR l) x := by
  unfold hldR allR
  split
  · rfl
  · rfl
theorem allR_len (l : List RH) : (allR l).length ≤ tot l := by
  unfold allR
  split
  · exact allH_len l
  · simp
theorem holdM_len (A : List HH) (x : Int) : (holdM A x).length ≤ A.length := by
  unfold holdM
  have h1 := foldP_len ((underH A x).map Prod.fst) []
  rw [List.length_map] at h1
  have h2 : (underH A x).length ≤ A.length := List.length_filter_le _ _
  simp only [List.length_nil] at h1
  omega
theorem holdM_ok {A : List HH} (h : ∀ y ∈ A, okH y) (x : Int) : ∀ z ∈ holdM A x, inK .i64 z := by
  unfold holdM
  refine foldP_ok _ _ (fun z hz => ?_) (fun z hz => by cases hz)
  obtain ⟨y, hy, rfl⟩ := List.mem_map.1 hz
  exact (h y (underH_mem.1 hy).1).1
attribute [local irreducible] Hold J JL JD JX JXat OpR OpG Ret RetV Is Blk Row MapC
set_option maxRecDepth 100000
set_option maxHeartbeats 1000000
theorem referTells_w (w : World) (a : Option Addr) (n c : Nat) (l : List RH) (an : Option Addr) (nn nc : Nat) (xs : List Int) (h : Sl dRef All w a n c l) (hx : Sl (tInt .i64) All w an nn nc xs) :
    Ret Try.prog 7 #[.slice a n c, .slice an nn nc] w fun v w' => v = .bool true ∧ Ext w w' := by
  refine Ret_of (l := [_, _]) Try.func7 rfl Try.ntmps7 (by simp) ?_
  have hs := St.init w
  obtain ⟨E, hE0⟩ : ∃ E, E = ownL l := ⟨_, rfl⟩
  have hEl : E.length ≤ 30 := by rw [hE0]; exact ownL_len l
  have hEt : tot E ≤ 1800 := by rw [hE0]; exact ownL_tot l
  have hEo : ∀ r ∈ E, inK .i64 r.1 ∧ ∀ x ∈ r.2, okH x := fun r hr => by
    rw [hE0] at hr
    unfold ownL at hr
    obtain ⟨q, hq, rfl⟩ := List.mem_map.1 hr
    have := sl_okR h q (List.mem_of_mem_take hq)
    exact ⟨this.1, fun x hx => this.2 x (List.mem_of_mem_take hx)⟩
  obtain ⟨bb, hbb⟩ : ∃ bb, rightH E = bb := ⟨_, rfl⟩
  obtain ⟨Us, hU⟩ : ∃ Us, Us = allR E := ⟨_, rfl⟩
  have hUl : Us.length ≤ 1800 := by rw [hU]; exact Nat.le_trans (allR_len E) hEt
  have hUo : ∀ x ∈ Us, okH x := by
    rw [hU]; unfold allR
    split
    · exact allH_ok hEo
    · exact fun x hx => by cases hx
  obtain ⟨cde, hcde⟩ : ∃ cde, cde = errR E := ⟨_, rfl⟩
  have hcd : (bb = true ∧ cde = 0) ∨ (bb = false ∧ cde = 250) := by
    unfold errR at hcde
    rw [hbb] at hcde
    cases bb
    · exact .inr ⟨rfl, hcde⟩
    · exact .inl ⟨rfl, hcde⟩
  have hbn : (decide (cde = 0) != bb) = false := by rcases hcd with ⟨h1, h2⟩ | ⟨h1, h2⟩ <;> rw [h1, h2] <;> decide
  have hbn2 : (decide (cde ≠ 0) && decide (cde ≠ 250)) = false := by rcases hcd with ⟨h1, h2⟩ | ⟨h1, h2⟩ <;> rw [h2] <;> decide
  have hc2 : cde = 0 ∨ cde = 250 := by omega
  have hxl := hx.len
  have hxmx : nn ≤ 9223372036854775807 := by have h1 := hx.le; have h2 := hx.cap; unfold maxLen at h2; omega
  have hEE : decide (E = E) = true := decide_eq_true rfl
  have hUU : decide (Us = Us) = true := decide_eq_true rfl
  repeat' (first
    | ((apply aj_condu 20; refine J_cutK (γ := Option Addr × Nat) [(0, _), (1, _), (5, _), (6, _)] (by repeat' (first | exact trivial | exact rfl | apply And.intro)) (fun g => [(7, .slice g.1 Us.length g.2)]) (fun g w' => St w NoF w' [RowH g.1 Us.length g.2 Us, TabQ a1 qs.length c1 (qs.map rawQ), OwnQ qs]) (fun RR kk hcont => hold ?_) (hold ?_)))
    | ((apply al_none (t := 14); refine JL_o (OpR_callF en35 rfl (rwakes_r _)) rfl rfl ?_; rintro _ _ ⟨rfl, hE⟩; have hs := hs.ext hE))
    | ((apply al_call 36; refine JL_o (by exact OpR_callF en36 rfl (rlown_r _ a n c l (h.st hs))) rfl rfl ?_; rintro _ _ ⟨qs, a1, c1, ⟨hqm, hqo⟩, rfl, hf⟩; rw [← hE0] at hqm; have hs := hs.fresh hf; have hql : qs.length ≤ 30 := (by have := congrArg List.length hqm; rw [List.length_map] at this; omega); (try simp only [List.cons_append, List.nil_append] at hs)))
    | ((apply al_call 37; refine JL_o (by exact OpR_callF en37 rfl (right15_r _ a1 qs.length c1 (qs.map meanQ) (slQ hs (by repeat (first | exact List.Mem.head _ | apply List.Mem.tail)) (by repeat (first | exact List.Mem.head _ | apply List.Mem.tail)) hqo) (by rw [hqm]; omega))) rfl rfl ?_; rintro _ _ ⟨rfl, hE⟩; rw [hqm, hbb]; have hs := hs.ext hE; (try simp only [List.cons_append, List.nil_append] at hs)))
    | (apply JL_nil)
    | ((apply JL_pure); (first
      | (apply as_move; exact OpR_move rfl is_rfl)
      | (apply as_assign; exact OpR_assign rfl is_rfl)
      | (apply as_unOp; exact OpR_not rfl is_rfl)); first | (exact rfl; exact rfl) | exact rfl)
    | (apply J_seq)
    | (apply J_region)
    | (apply J_skip)
    | (apply aj_cond; refine J_cond_f rfl gb ?_))
  · refine unhold ?_
    cases bb with
    | true =>
      have hUt : Us = allH E := by rw [hU]; unfold allR; rw [hbb]; rfl
      repeat' (first
        | ((apply al_call 38; refine JL_o (by exact OpR_callF en38 rfl (all15_r _ a1 qs.length c1 (qs.map meanQ) (slQ hs (by repeat (first | exact List.Mem.head _ | apply List.Mem.tail)) (by repeat (first | exact List.Mem.head _ | apply List.Mem.tail)) hqo) (by rw [hqm]; omega))) rfl rfl ?_; rintro _ _ ⟨a7, c7, rfl, hf⟩; rw [hqm, ← hUt] at hf ⊢; have hs := hs.fresh hf; (try simp only [List.cons_append, List.nil_append] at hs)))
        | (apply JL_nil)
        | ((apply JL_pure); (first
      | (apply as_move; exact OpR_move rfl is_rfl)
      | (apply as_assign; exact OpR_assign rfl is_rfl)); first | (exact rfl; exact rfl) | exact rfl)
        | (apply J_region)
        | (apply aj_cond; refine J_cond_t rfl gb ?_))
      refine hcont (a7, c7) _ _ hs (by repeat' (first | exact trivial | exact rfl | apply And.intro))
    | false =>
      have hUf : Us = [] := by rw [hU]; unfold allR; rw [hbb]; rfl
      repeat' (first
        | (apply J_skip)
        | (apply aj_cond; refine J_cond_f rfl gb ?_))
      have hs := hs.nilRow 72 2
      rw [hUf] at hcont
      refine hcont (none, 0) _ _ hs (by repeat' (first | exact trivial | exact rfl | apply And.intro))
  · refine unhold ?_
    rintro ⟨a7, c7⟩ w2 hs1
    dsimp only at hs1 ⊢
    have hs : St w NoF w2 [_, _, _] := hs1
    repeat' (first
      | ((apply aj_regn 10; refine J_cutK (γ := Unit) [(0, _), (1, _), (5, _), (7, _)] (by repeat' (first | exact trivial | exact rfl | apply And.intro)) (fun _ => [(44, .bool false)]) (fun _ w' => St w NoF w' [RowH a8 Us.length c8 Us, RowH a7 Us.length c7 Us, TabQ a1 qs.length c1 (qs.map rawQ), OwnQ qs]) (fun RR kk hcont => hold ?_) (hold ?_)))
      | ((apply al_call 39; refine JL_o (by exact OpR_callF en39 rfl (rall_r _ a1 qs.length c1 (qs.map meanQ) (slQ hs (by repeat (first | exact List.Mem.head _ | apply List.Mem.tail)) (by repeat (first | exact List.Mem.head _ | apply List.Mem.tail)) hqo) (by omega) (by rw [hqm]; omega))) rfl rfl ?_; rintro _ _ ⟨a8, c8, rfl, hf⟩; rw [hqm, ← hU] at hf ⊢; have hs := hs.fresh hf; (try simp only [List.cons_append, List.nil_append] at hs)))
      | ((apply al_call 40; refine JL_o (by exact OpR_callF en40 rfl (rcheck_r _ a1 qs.length c1 (qs.map meanQ) (slQ hs (by repeat (first | exact List.Mem.head _ | apply List.Mem.tail)) (by repeat (first | exact List.Mem.head _ | apply List.Mem.tail)) hqo) (by omega) (by rw [hqm]; omega))) rfl rfl ?_; rintro _ _ ⟨rfl, hE⟩; rw [hqm, ← hcde]; have hs := hs.ext hE; (try simp only [List.cons_append, List.nil_append] at hs)))
      | (apply JL_nil)
      | ((apply JL_pure); (first
      | (apply as_move; exact OpR_move rfl is_rfl)
      | (apply as_assign; exact OpR_assign rfl is_rfl)); first | (exact rfl; exact rfl) | exact rfl)
      | (apply J_seq)
      | (apply J_region))
    · refine unhold ?_
      rcases hcd with ⟨rfl, hc0⟩ | ⟨rfl, hc0⟩
      all_goals
        rw [hc0]
        repeat' (first
          | ((apply al_callg 41; refine JL_o_on rfl gb (by exact OpR_callF en41 rfl (equalH_r _ a8 a7 Us.length c8 Us.length c7 Us Us (slH hs (by repeat (first | exact List.Mem.head _ | apply List.Mem.tail)) hUo) (slH hs (by repeat (first | exact List.Mem.head _ | apply List.Mem.tail)) hUo))) rfl rfl ?_; rintro _ _ ⟨rfl, hE⟩; rw [hUU]; have hs := hs.ext hE; (try simp only [List.cons_append, List.nil_append] at hs)))
          | (apply JL_nil)
          | ((first | (apply JL_pure) | (apply JL_pure_on; exact rfl; exact gb)); (first
      | (apply as_move; exact OpR_move rfl is_rfl)
      | (apply as_binOp; first | exact OpR_ibin rfl rfl rfl is_rfl | exact OpR_bne rfl rfl is_rfl)
      | (apply as_unOp; exact OpR_not rfl is_rfl)
      | (apply as_pick; first | exact OpR_pick_t rfl gb rfl is_rfl | exact OpR_pick_f rfl gb rfl is_rfl)); first | (exact rfl; exact rfl) | exact rfl)
          | (apply J_region)
          | (apply al_guard; (refine JL_no rfl gb rfl ?_)))
        refine hcont () _ _ hs (by repeat' (first | exact trivial | exact rfl | apply And.intro))
    refine unhold ?_
    rintro _ w2 hs1
    have hs : St w NoF w2 [_, _, _, _] := hs1
    repeat' (first
      | (apply JL_nil)
      | ((apply JL_pure); (first
      | (apply as_move; exact OpR_move rfl is_rfl)
      | (apply as_b_len; exact OpR_len rfl is_rfl)); first | (exact rfl; exact rfl) | exact rfl)
      | (apply J_seq)
      | (apply J_region)
      | (apply J_block)
      | (apply J_skip)
      | (apply aj_cond; refine J_cond_f rfl gb ?_))
    refine J_loopK (α := Nat) [(0, _), (5, _), (7, _), (45, _), (46, _)] (fun k => [(47, .int .i64 k)]) (fun k w' => St w NoF w' [RowH a7 Us.length c7 Us, TabQ a1 qs.length c1 (qs.map rawQ), OwnQ qs] ∧ k ≤ nn ∧ k ≤ 10) (fun k => nn - k) 0 ⟨hs.sel [1, 2, 3] (by decide), Nat.zero_le _, Nat.zero_le _⟩ (by repeat' (first | exact trivial | exact rfl | apply And.intro)) ?_
    rintro k w3 ⟨hs1, hk, hk10⟩ ih
    have hs : St w NoF w3 [_, _, _] := hs1
    by_cases hlt : k < nn
    · obtain ⟨p, o, rfl⟩ := hx.sl.addr (by omega)
      have hs : St w NoF w3 [_, _, _] := hs1
      have hxx : xs[k]? = some (xs[k]'(by omega)) := List.getElem?_eq_getElem (by omega)
      obtain ⟨x, hxd⟩ : ∃ x, x = xs[k]'(by omega) := ⟨_, rfl⟩
      rw [← hxd] at hxx
      by_cases h10 : k = 10
      · repeat' (first
          | ((apply al_call 36; refine JL_o (by exact OpR_callF en36 rfl (rlown_r _ a n c l (h.st hs))) rfl rfl ?_; rintro _ _ ⟨qs2, a9, c9, ⟨hqm2, hqo2⟩, rfl, hf⟩; rw [← hE0] at hqm2; have hs := hs.fresh hf; (try simp only [List.cons_append, List.nil_append] at hs)))
          | ((apply al_call 47; refine JL_o (by exact OpR_callF en47 rfl (Same15_r _ a1 a9 qs.length c1 qs2.length c9 (qs.map meanQ) (qs2.map meanQ) (slQ hs (by repeat (first | exact List.Mem.head _ | apply List.Mem.tail)) (by repeat (first | exact List.Mem.head _ | apply List.Mem.tail)) hqo) (slQ hs (by repeat (first | exact List.Mem.head _ | apply List.Mem.tail)) (by repeat (first | exact List.Mem.head _ | apply List.Mem.tail)) hqo2))) rfl rfl ?_; rintro _ _ ⟨rfl, hE⟩; rw [hqm, hqm2, hEE]; have hs := hs.ext hE; (try simp only [List.cons_append, List.nil_append] at hs)))
          | (apply JL_nil)
          | ((apply JL_pure); (first
      | (apply as_load; exact OpR_load_el1 (i := k) (j := 0) (hx.st hs) hxx rfl rfl rfl is_rfl)
      | (apply as_move; exact OpR_move rfl is_rfl)
      | (apply as_assign; exact OpR_assign rfl is_rfl)
      | (apply as_binOp; exact OpR_ibin rfl rfl rfl is_rfl)
      | (apply as_indexAddr; exact OpR_indexAddr rfl rfl (by omega) (by omega) is_rfl)); first | (exact rfl; exact rfl) | exact rfl)
          | (apply J_seq)
          | (apply J_region)
          | (apply J_block)
          | (apply aj_exit; refine J_exit rfl ?_)
          | (apply J_skip)
          | (apply aj_cond; refine J_dec_t rfl ob ?_))
        refine J_leave Try.func7 rfl (.tmp rfl .nil) ⟨rfl, hs.frm.ext⟩
      · obtain ⟨V, hV⟩ : ∃ V, V = ofR E x := ⟨_, rfl⟩
        have hVu : underH Us x = V := by rw [hV, ofR_under, hU]
        have hVo : ∀ y ∈ V, okH y := by rw [← hVu]; exact fun y hy => hUo y (underH_mem.1 hy).1
        have hVl : V.length ≤ 1800 := by rw [← hVu]; exact Nat.le_trans (List.length_filter_le _ _) hUl
        obtain ⟨Hs, hH⟩ : ∃ Hs, Hs = hldR E x := ⟨_, rfl⟩
        have hHu : holdM Us x = Hs := by rw [hH, hldR_hold, hU]
        have hHo : ∀ z ∈ Hs, inK .i64 z := by rw [← hHu]; exact holdM_ok hUo x
        have hVV : decide (V = V) = true := decide_eq_true rfl
        have hHH : decide (Hs = Hs) = true := decide_eq_true rfl
        repeat' (first
          | ((apply al_call 42; refine JL_o (by exact OpR_callF en42 rfl (rof_r _ a1 qs.length c1 (qs.map meanQ) x (slQ hs (by repeat (first | exact List.Mem.head _ | apply List.Mem.tail)) (by repeat (first | exact List.Mem.head _ | apply List.Mem.tail)) hqo) (by omega) (by rw [hqm]; omega))) rfl rfl ?_; rintro _ _ ⟨a12, c12, rfl, hf⟩; rw [hqm, ← hV] at hf ⊢; have hs := hs.fresh hf; (try simp only [List.cons_append, List.nil_append] at hs)))
          | ((apply al_call 43; refine JL_o (by exact OpR_callF en43 rfl (under15_r _ a7 Us.length c7 Us x (slH hs (by repeat (first | exact List.Mem.head _ | apply List.Mem.tail)) hUo) (by omega))) rfl rfl ?_; rintro _ _ ⟨a60, c60, rfl, hf⟩; rw [hVu] at hf ⊢; have hs := hs.fresh hf; (try simp only [List.cons_append, List.nil_append] at hs)))
          | ((apply al_call 41; refine JL_o (by exact OpR_callF en41 rfl (equalH_r _ a12 a60 V.length c12 V.length c60 V V (slH hs (by repeat (first | exact List.Mem.head _ | apply List.Mem.tail)) hVo) (slH hs (by repeat (first | exact List.Mem.head _ | apply List.Mem.tail)) hVo))) rfl rfl ?_; rintro _ _ ⟨rfl, hE⟩; rw [hVV]; have hs := hs.ext hE; (try simp only [List.cons_append, List.nil_append] at hs)))
          | ((apply al_callg 45; refine JL_o_on rfl gb (by exact OpR_callF en45 rfl (rholders_r _ a1 qs.length c1 (qs.map meanQ) x (slQ hs (by repeat (first | exact List.Mem.head _ | apply List.Mem.tail)) (by repeat (first | exact List.Mem.head _ | apply List.Mem.tail)) hqo) (by omega) (by rw [hqm]; omega))) rfl rfl ?_; rintro _ _ ⟨a66, c66, rfl, hf⟩; rw [hqm, ← hH] at hf ⊢; have hs := hs.fresh hf; (try simp only [List.cons_append, List.nil_append] at hs)))
          | ((apply al_callg 46; refine JL_o_on rfl gb (by exact OpR_callF en46 rfl (holders15_r _ a7 Us.length c7 Us x (slH hs (by repeat (first | exact List.Mem.head _ | apply List.Mem.tail)) hUo) (by omega))) rfl rfl ?_; rintro _ _ ⟨a69, c69, rfl, hf⟩; rw [hHu] at hf ⊢; have hs := hs.fresh hf; (try simp only [List.cons_append, List.nil_append] at hs)))
          | ((apply al_callg 44; refine JL_o_on rfl gb (by exact OpR_callF en44 rfl (equalI_r _ a66 a69 Hs.length c66 Hs.length c69 Hs Hs (slI hs (by repeat (first | exact List.Mem.head _ | apply List.Mem.tail)) hHo) (slI hs (by repeat (first | exact List.Mem.head _ | apply List.Mem.tail)) hHo))) rfl rfl ?_; rintro _ _ ⟨rfl, hE⟩; rw [hHH]; have hs := hs.ext hE; (try simp only [List.cons_append, List.nil_append] at hs)))
          | (apply JL_nil)
          | ((first | (apply JL_pure) | (apply JL_pure_on; exact rfl; exact gb)); (first
      | (apply as_load; first | exact OpR_load_el1 (i := k) (j := 0) (hx.st hs) hxx rfl rfl rfl is_rfl)
      | (apply as_move; exact OpR_move rfl is_rfl)
      | (apply as_assign; exact OpR_assign rfl is_rfl)
      | (apply as_binOp; exact OpR_ibin rfl rfl rfl is_rfl)
      | (apply as_unOp; exact OpR_not rfl is_rfl)
      | (apply as_pick; exact OpR_pick_f rfl gb rfl is_rfl)
      | (apply as_b_len; exact OpR_len rfl is_rfl)
      | (apply as_indexAddr; exact OpR_indexAddr rfl rfl (by omega) (by omega) is_rfl)); first | (exact rfl; exact rfl) | exact rfl)
          | (apply J_seq)
          | (apply J_region)
          | (apply J_block)
          | (apply J_skip)
          | (apply aj_cond; first | refine J_dec_t rfl ob ?_ | refine J_dec_f rfl ob ?_ | refine J_cond_f rfl gb ?_))
        refine J_loopK (α := Nat × List HH) [(0, _), (5, _), (7, _), (12, _), (45, _), (46, _), (47, _), (74, _)] (fun g => [(75, .int .i64 g.1)]) (fun g w' => St w NoF w' [RowH a12 V.length c12 g.2, RowH a7 Us.length c7 Us, TabQ a1 qs.length c1 (qs.map rawQ), OwnQ qs] ∧ g.1 ≤ V.length ∧ g.2.length = V.length) (fun g => V.length - g.1) (0, V) ⟨hs.sel [3, 4, 5, 6] (by decide), Nat.zero_le _, rfl⟩ (by repeat' (first | exact trivial | exact rfl | apply And.intro)) ?_
        rintro ⟨j, ys⟩ w4 ⟨hs1, hj, hyl⟩ ih2
        dsimp only at hs1 hj hyl ih2 ⊢
        by_cases hlj : j < V.length
        · have hs : St w NoF w4 [_, _, _, _] := hs1
          obtain ⟨p2, o2, rfl⟩ := (hs.row a12 V.length c12).some (by omega)
          have hs : St w NoF w4 [_, _, _, _] := hs1
          have hy : ys[j]? = some (ys[j]'(by omega)) := List.getElem?_eq_getElem (by omega)
          obtain ⟨y, hyd⟩ : ∃ y, y = ys[j]'(by omega) := ⟨_, rfl⟩
          rw [← hyd] at hy
          have hcy : (encL cH ys)[j * 2]? = some (.int .i64 y.1) := encL_get (d := dHeld) ys j 0 y hy (by decide)
          repeat' (first
            | ((apply al_unit; refine JL_u (by apply as_store; exact OpR_storeN (b := p2) (o := o2) (off := j * 2) (n := V.length) (c := c12) (vs := [.int .i64 _]) hs rfl rfl rfl rfl (by simp [Value.oneCell']) (by show j * 2 + 1 ≤ V.length * 2; omega)) rfl ?_; rintro _ _ ⟨hs, hF⟩; rw [encH_set0 ys j y _ hy] at hs))
            | (apply JL_nil)
            | ((apply JL_pure); (first
      | (apply as_load; exact OpR_load1N (b := p2) (o := o2) (off := j * 2) (n := V.length) (c := c12) hs rfl hcy is_rfl)
      | (apply as_move; exact OpR_move rfl is_rfl)
      | (apply as_assign; exact OpR_assign rfl is_rfl)
      | (apply as_fieldAddr; exact OpR_fieldAddr rfl rfl is_rfl)
      | (apply as_add; first | exact OpR_addn rfl rfl (by omega) (by first | (simp only [Int.reduceAdd]; exact rfl) | exact rfl) is_rfl | exact OpR_ibin rfl rfl rfl is_rfl)
      | (apply as_binOp; exact OpR_ibin rfl rfl rfl is_rfl)
      | (apply as_indexAddr; exact OpR_indexAddr rfl rfl (by omega) (by omega) is_rfl)); first | (exact rfl; exact rfl) | exact rfl)
            | (apply J_seq)
            | (apply J_region)
            | (apply J_block)
            | (apply J_inBlock)
            | (apply J_skip)
            | (apply aj_cond; refine J_dec_t rfl ob ?_))
          refine ih2 (j + 1, ys.set j (_, y.2)) _ _ ⟨hs, hlj, by show (ys.set j _).length = _; rw [List.length_set]; exact hyl⟩ (by show V.length - (j + 1) < V.length - j; omega) (by repeat' (first | exact trivial | exact rfl | apply And.intro))
        · have hs : St w NoF w4 [_, _, _, _] := hs1
          repeat' (first
            | (apply JL_nil)
            | ((apply JL_pure); (first
      | (apply as_move; exact OpR_move rfl is_rfl)
      | (apply as_add; exact OpR_addn rfl rfl (by omega) (by first | (simp only [Int.reduceAdd]; exact rfl) | exact rfl) is_rfl)
      | (apply as_binOp; exact OpR_ibin rfl rfl rfl is_rfl)); first | (exact rfl; exact rfl) | exact rfl)
            | (apply J_seq)
            | (apply J_region)
            | (apply J_inBlock)
            | (apply aj_exit; refine J_exit rfl ?_)
            | (apply aj_cond; refine J_dec_f rfl ob ?_))
          refine ih (k + 1) _ _ ⟨hs.sel [1, 2, 3] (by decide), hlt, by omega⟩ (by omega) (by repeat' (first | exact trivial | exact rfl | apply And.intro))
    · repeat' (first
        | ((apply al_call 36; refine JL_o (by exact OpR_callF en36 rfl (rlown_r _ a n c l (h.st hs))) rfl rfl ?_; rintro _ _ ⟨qs2, a9, c9, ⟨hqm2, hqo2⟩, rfl, hf⟩; rw [← hE0] at hqm2; have hs := hs.fresh hf; (try simp only [List.cons_append, List.nil_append] at hs)))
        | ((apply al_call 47; refine JL_o (by exact OpR_callF en47 rfl (Same15_r _ a1 a9 qs.length c1 qs2.length c9 (qs.map meanQ) (qs2.map meanQ) (slQ hs (by repeat (first | exact List.Mem.head _ | apply List.Mem.tail)) (by repeat (first | exact List.Mem.head _ | apply List.Mem.tail)) hqo) (slQ hs (by repeat (first | exact List.Mem.head _ | apply List.Mem.tail)) (by repeat (first | exact List.Mem.head _ | apply List.Mem.tail)) hqo2))) rfl rfl ?_; rintro _ _ ⟨rfl, hE⟩; rw [hqm, hqm2, hEE]; have hs := hs.ext hE; (try simp only [List.cons_append, List.nil_append] at hs)))
        | (apply JL_nil)
        | ((apply JL_pure); (first
      | (apply as_move; exact OpR_move rfl is_rfl)
      | (apply as_assign; exact OpR_assign rfl is_rfl)
      | (apply as_binOp; exact OpR_ibin rfl rfl rfl is_rfl)); first | (exact rfl; exact rfl) | exact rfl)
        | (apply J_seq)
        | (apply J_region)
        | (apply aj_exit; refine J_exit rfl ?_)
        | (apply aj_cond; refine J_dec_f rfl ob ?_))
      refine J_leave Try.func7 rfl (.tmp rfl .nil) ⟨rfl, hs.frm.ext⟩
end Go.Eng
