/- The texts D28, D29, D30, joined. -/
import Derived.Test.YthencidlkacpdaaDoorY2
/- RecordApart: who stands in a table is told, by rows, and nobody else. -/
namespace Go.Eng
open Go.Proofs
set_option linter.unusedSimpArgs false
set_option linter.unusedVariables false
theorem standG_inc : ∀ (i : Nat) (xs : List Sp), ((standG i xs).map Prod.fst).Pairwise (· < ·) ∧ ∀ j ∈ (standG i xs).map Prod.fst, i < j
  | i, [] => ⟨List.Pairwise.nil, fun _ h => nomatch h⟩
  | i, x :: xs => by
    obtain ⟨h1, h2⟩ := standG_inc (i + 1) xs
    rw [standG]
    split
    · exact ⟨h1, fun j hj => by have := h2 j hj; omega⟩
    · rw [List.map_cons]
      refine ⟨List.pairwise_cons.2 ⟨fun j hj => h2 j hj, h1⟩, fun j hj => ?_⟩
      rcases List.mem_cons.1 hj with rfl | hj
      · show i < i + 1; omega
      · have := h2 j hj; omega
theorem tabG_nodup (xs : List Sp) (t : Int) : (tabG xs t).Nodup := by
  unfold tabG
  have h := (standG_inc 0 xs).1
  have hs : (((standG 0 xs).filter (fun p => decide (p.2.1 = t))).map Prod.fst).Sublist ((standG 0 xs).map Prod.fst) := List.filter_sublist.map _
  exact (h.sublist hs).imp (fun h e => by omega)
theorem mem_tabG_iff {xs : List Sp} {t : Int} (ht : t ≠ 0) {i : Nat} : i ∈ tabG xs t ↔ (1 ≤ i ∧ i ≤ xs.length) ∧ (atM xs i).1 = t := by
  refine ⟨fun h => ⟨(mem_tabG h).1, (mem_tabG h).2.1⟩, fun ⟨h1, h2⟩ => ?_⟩
  have hx : xs[i - 1]? = some (atM xs i) := by
    unfold atM
    rw [if_pos (by omega), List.getD_eq_getElem?_getD, show ((i : Int) - 1).toNat = i - 1 by omega, List.getElem?_eq_getElem (by omega)]; rfl
  have hne : atM xs i ≠ (0, 0) := fun e => ht (by rw [← h2, e])
  have hg := standG_get hx hne
  refine List.mem_map.2 ⟨(i - 1 + 1, atM xs i), List.mem_filter.2 ⟨List.mem_of_getElem? hg, decide_eq_true h2⟩, ?_⟩
  show i - 1 + 1 = i; omega
theorem rowsF_perm {xs : List Sp} (hr : rightB xs = true) {t : Int} (ht : t ≠ 0) : (rowsF xs t).Perm (tabG xs t) := by
  unfold rowsF; rw [if_pos hr]; exact rowsM_perm ht
theorem rowsF_strict {xs : List Sp} {t : Int} : (rowsF xs t).Pairwise (fun x y : Nat => (atM xs x).2 < (atM xs y).2) := by
  by_cases hr : rightB xs = true
  · by_cases ht : t = 0
    · have : rowsF xs t = [] := by unfold rowsF rowsM; rw [if_pos hr, if_pos ht]
      rw [this]; exact List.Pairwise.nil
    · have hs : (rowsF xs t).Pairwise (fun x y : Nat => (atM xs x).2 ≤ (atM xs y).2) := by unfold rowsF; rw [if_pos hr]; exact rowsM_sorted xs t
      have hn : (rowsF xs t).Nodup := (rowsF_perm hr ht).nodup_iff.2 (tabG_nodup xs t)
      refine (hs.and hn).imp_of_mem (fun {x y} hx hy ⟨h1, h2⟩ => ?_)
      have a1 := mem_tabG ((rowsF_perm hr ht).mem_iff.1 hx)
      have b1 := mem_tabG ((rowsF_perm hr ht).mem_iff.1 hy)
      have c1 := mem_rowsF hx
      rcases Int.lt_or_eq_of_le h1 with h3 | h3
      · exact h3
      · exfalso
        have e : atM xs x = atM xs y := Prod.ext (by rw [a1.2.1, b1.2.1]) h3
        have b2 := b1.2.2
        have a2 := a1.2.2
        rw [e] at a2
        have := right_inj hr a2 b2 (by rw [b1.2.1]; exact c1.2.2.2)
        exact h2 (by omega)
  · have : rowsF xs t = [] := by unfold rowsF; rw [if_neg hr]
    rw [this]; exact List.Pairwise.nil
theorem idxM_mem (l : List Int) (x : Int) : decide (idxM l x ≥ 0) = decide (x ∈ l) := by
  unfold idxM
  cases h : l.findIdx? (fun y => decide (x = y)) with
  | none =>
    rw [List.findIdx?_eq_none_iff] at h
    have : x ∉ l := fun hx => by have := h x hx; simp at this
    simp [this]
  | some i =>
    rw [List.findIdx?_eq_some_iff_getElem] at h
    obtain ⟨h1, h2, _⟩ := h
    have : x ∈ l := by have h3 : x = l[i] := by simpa using h2
                       rw [h3]; exact List.getElem_mem _
    simp [this]
theorem mem_enL {l : List Nat} {i : Nat} : (i : Int) ∈ enL l ↔ i ∈ l := by
  unfold enL
  rw [List.mem_map]
  exact ⟨fun ⟨j, hj, e⟩ => by have : j = i := by omega
                              subst this; exact hj, fun h => ⟨i, h, rfl⟩⟩
/-- Who is told is who stands there. -/
theorem apart1 {xs : List Sp} (hr : rightB xs = true) {t : Int} (ht : t ≠ 0) (i : Nat) : decide (idxM (enL (rowsF xs t)) i ≥ 0) = decide ((atF xs i).1 = t) := by
  have ha : atF xs i = atM xs i := by unfold atF; rw [if_pos hr]
  rw [idxM_mem, ha]
  refine decide_eq_decide.2 ?_
  rw [mem_enL, (rowsF_perm hr ht).mem_iff, mem_tabG_iff ht]
  refine ⟨fun h => h.2, fun h => ⟨?_, h⟩⟩
  have : ¬ ¬ (1 ≤ (i : Int) ∧ (i : Int) ≤ (xs.length : Int)) := fun hn => ht (by rw [← h]; unfold atM; rw [if_neg hn])
  have := Decidable.not_not.1 this
  omega
/-- The row of the last one. -/
def lastR (xs : List Sp) (l : List Nat) (j : Nat) : Int := if j = 0 then -1 else (atF xs (l.getD (j - 1) 0 : Nat)).2
theorem apart2 {xs : List Sp} {t : Int} {j i : Nat} (h : (rowsF xs t)[j]? = some i) : ¬ (atF xs i).2 ≤ lastR xs (rowsF xs t) j := by
  have hr : rightB xs = true := by
    cases hb : rightB xs with
    | true => rfl
    | false => unfold rowsF at h; rw [hb] at h; simp at h
  have ha : ∀ i : Int, atF xs i = atM xs i := fun i => by unfold atF; rw [if_pos hr]
  unfold lastR
  rw [ha]
  by_cases h0 : j = 0
  · rw [if_pos h0]
    have := (atM_row hr i).1; omega
  · rw [if_neg h0, ha]
    obtain ⟨hj, he⟩ := List.getElem?_eq_some_iff.1 h
    have hp := List.pairwise_iff_getElem.1 (rowsF_strict (xs := xs) (t := t)) (j - 1) j (by omega) hj (by omega)
    rw [he] at hp
    have hg : (rowsF xs t).getD (j - 1) 0 = (rowsF xs t)[j - 1] := by rw [List.getD_eq_getElem?_getD, List.getElem?_eq_getElem (by omega)]; rfl
    rw [hg]; omega
theorem slRows2 {w : World} {a : Option Addr} {c : Nat} {xs : List Sp} {t : Int} {l : List Nat} (hl : l = rowsF xs t) (h : RowV w a l.length c 3 1 ((enL l).map (.int .i64))) : Sl (tInt .i64) All w a l.length c (enL l) := by subst hl; exact slRows h
theorem rowsF_len (xs : List Sp) (t : Int) : (rowsF xs t).length ≤ xs.length := by
  unfold rowsF rowsM
  split
  · split
    · simp
    · exact rowsP_len xs t xs.length
  · simp
theorem take40 (xs : List Sp) : (xs.take 40).length ≤ 40 := by simp; omega
attribute [local irreducible] Hold J JL JD JX JXat OpR OpG Ret RetV Is Blk Row MapC
set_option maxRecDepth 100000
set_option maxHeartbeats 1000000
theorem recordApart_w (w : World) (hG : Gz w) (a : Option Addr) (n c : Nat) (xs : List Sp) (t : Int) (h : Sl dSp All w a n c xs) (ht : inK .i64 t) :
    Ret Tryd.prog 5 #[.agg #[.slice a n c], .int .i64 t] w fun v w' => v = .bool true ∧ Ext w w' := by
  refine Ret_of (l := [_, _]) Tryd.func5 rfl Tryd.ntmps5 (by simp) ?_
  have hs := St.init w
  obtain ⟨ys, hys⟩ : ∃ ys, ys = xs.take 40 := ⟨_, rfl⟩
  have hyl : ys.length ≤ 40 := by rw [hys]; exact take40 xs
  have hok : ∀ s ∈ ys, okS s := fun s hs => by
    rw [hys] at hs
    obtain ⟨j, hj⟩ := List.mem_iff_getElem?.1 (List.mem_of_mem_take hs); exact h.okSp hj
  obtain ⟨l, hld⟩ : ∃ l, l = rowsF ys t := ⟨_, rfl⟩
  have hll : l.length ≤ ys.length := by rw [hld]; exact rowsF_len ys t
  by_cases hr : rightB ys = true
  · by_cases h0 : t = 0
    · have hl0 : l = [] := by rw [hld]; unfold rowsF rowsM; rw [if_pos hr, if_pos h0]
      repeat' (first
        | ((apply al_call 8; refine JL_o (by exact OpR_callF en8 rfl (wakes_r _ (hG.st hs))) rfl rfl ?_; rintro _ _ ⟨rfl, hE⟩; have hs := hs.ext hE; (try simp only [List.cons_append, List.nil_append] at hs)))
        | ((apply al_call 9; refine JL_o (by exact OpR_callF en9 rfl (own_r _ a n c xs (h.st hs))) rfl rfl ?_; rintro _ _ ⟨ac, cc, rfl, hf⟩; rw [← hys] at hf ⊢; have hs := hs.fresh hf; (try simp only [List.cons_append, List.nil_append] at hs)))
        | ((apply al_call 15; refine JL_o (by exact OpR_callF en15 rfl (Rows_r _ (hG.st hs) ac ys.length cc ys t (RowV.sp (hs.row ac ys.length cc) hok))) rfl rfl ?_; rintro _ _ ⟨al, cl, rfl, hf⟩; rw [← hld] at hf ⊢; have hs := hs.fresh hf; (try simp only [List.cons_append, List.nil_append] at hs)))
        | ((apply al_call 11; refine JL_o (by exact OpR_callF en11 rfl (check_v (hG.st hs) (RowV.sp (hs.row ac ys.length cc) hok) hr)) rfl rfl ?_; rintro _ _ ⟨rfl, hE⟩; have hs := hs.ext hE; (try simp only [List.cons_append, List.nil_append] at hs)))
        | (apply JL_nil)
        | ((first | (apply JL_pure) | (apply JL_pure_on; exact rfl; (first | assumption | exact rfl | exact decide_eq_true (by first | assumption | omega) | exact decide_eq_false (by first | assumption | omega)))); (first
      | (apply as_move; exact OpR_move rfl is_rfl)
      | (apply as_assign; exact OpR_assign rfl is_rfl)
      | (apply as_load; exact OpR_load_agg' hs rfl is_rfl)
      | (apply as_binOp; exact OpR_ibin rfl rfl rfl is_rfl)
      | (apply as_unOp; exact OpR_not rfl is_rfl)
      | (apply as_pick; exact OpR_pick_f rfl (by first | assumption | rfl | exact decide_eq_true (by first | assumption | omega) | exact decide_eq_false (by first | assumption | omega)) rfl is_rfl)
      | (apply as_b_len; exact OpR_len rfl is_rfl)); first | (exact rfl; exact rfl) | exact rfl)
        | (apply J_seq)
        | (apply J_region)
        | (apply J_skip)
        | (apply al_none (t := 2); refine JL_o (by apply as_box; exact OpR_box' hs rfl) rfl rfl ?_; rintro _ _ ⟨b2, rfl, hb2, hs, hE⟩)
        | (apply al_none (t := 5); refine JL_o (by apply as_alloc; exact OpR_alloc' hs) rfl rfl ?_; rintro _ _ ⟨b5, rfl, hb5, hs, hE⟩)
        | (apply al_unit; refine JL_u (by apply as_store; exact OpR_store' hs rfl rfl rfl) rfl ?_; rintro _ _ ⟨hs, hF⟩)
        | (apply aj_cond; first | refine J_dec_t rfl (by first | assumption | omega) ?_ | refine J_cond_f rfl (by first | assumption | rfl | exact decide_eq_true (by first | assumption | omega) | exact decide_eq_false (by first | assumption | omega)) ?_))
      refine J_leave Tryd.func5 rfl (.tmp rfl .nil) ⟨by simp [mkRes, hl0], hs.frm.ext⟩
    · repeat' (first
        | ((apply al_call 8; refine JL_o (by exact OpR_callF en8 rfl (wakes_r _ (hG.st hs))) rfl rfl ?_; rintro _ _ ⟨rfl, hE⟩; have hs := hs.ext hE; (try simp only [List.cons_append, List.nil_append] at hs)))
        | ((apply al_call 9; refine JL_o (by exact OpR_callF en9 rfl (own_r _ a n c xs (h.st hs))) rfl rfl ?_; rintro _ _ ⟨ac, cc, rfl, hf⟩; rw [← hys] at hf ⊢; have hs := hs.fresh hf; (try simp only [List.cons_append, List.nil_append] at hs)))
        | ((apply al_call 15; refine JL_o (by exact OpR_callF en15 rfl (Rows_r _ (hG.st hs) ac ys.length cc ys t (RowV.sp (hs.row ac ys.length cc) hok))) rfl rfl ?_; rintro _ _ ⟨al, cl, rfl, hf⟩; rw [← hld] at hf ⊢; have hs := hs.fresh hf; (try simp only [List.cons_append, List.nil_append] at hs)))
        | ((apply al_call 11; refine JL_o (by exact OpR_callF en11 rfl (check_v (hG.st hs) (RowV.sp (hs.row ac ys.length cc) hok) hr)) rfl rfl ?_; rintro _ _ ⟨rfl, hE⟩; have hs := hs.ext hE; (try simp only [List.cons_append, List.nil_append] at hs)))
        | (apply JL_nil)
        | ((first | (apply JL_pure) | (apply JL_pure_on; exact rfl; (first | assumption | exact rfl | exact decide_eq_true (by first | assumption | omega) | exact decide_eq_false (by first | assumption | omega)))); (first
      | (apply as_move; exact OpR_move rfl is_rfl)
      | (apply as_assign; exact OpR_assign rfl is_rfl)
      | (apply as_fieldAddr; exact OpR_fieldAddr0 rfl rfl is_rfl)
      | (apply as_load; first | exact OpR_load' hs rfl rfl is_rfl | exact OpR_load_agg' hs rfl is_rfl)
      | (apply as_add; exact OpR_addn rfl rfl (by omega) (by first | (simp only [Int.reduceAdd]; exact rfl) | exact rfl) is_rfl)
      | (apply as_binOp; exact OpR_ibin rfl rfl rfl is_rfl)
      | (apply as_unOp; exact OpR_not rfl is_rfl)
      | (apply as_pick; exact OpR_pick_f rfl (by first | assumption | rfl | exact decide_eq_true (by first | assumption | omega) | exact decide_eq_false (by first | assumption | omega)) rfl is_rfl)
      | (apply as_b_len; exact OpR_len rfl is_rfl)); first | (exact rfl; exact rfl) | exact rfl)
        | (apply J_seq)
        | (apply J_region)
        | (apply J_block)
        | (apply J_skip)
        | (apply al_none (t := 2); refine JL_o (by apply as_box; exact OpR_box' hs rfl) rfl rfl ?_; rintro _ _ ⟨b2, rfl, hb2, hs, hE⟩)
        | (apply al_none (t := 5); refine JL_o (by apply as_alloc; exact OpR_alloc' hs) rfl rfl ?_; rintro _ _ ⟨b5, rfl, hb5, hs, hE⟩)
        | (apply al_unit; refine JL_u (by apply as_store; exact OpR_store' hs rfl rfl rfl) rfl ?_; rintro _ _ ⟨hs, hF⟩)
        | (apply aj_cond; first | refine J_dec_f rfl (by first | assumption | omega) ?_ | refine J_cond_f rfl (by first | assumption | rfl | exact decide_eq_true (by first | assumption | omega) | exact decide_eq_false (by first | assumption | omega)) ?_))
      refine J_loopK (α := Nat) [(1, _), (5, _), (6, _), (7, _), (35, _)] (fun k => [(36, .int .i64 k)]) (fun k w' => St w NoF w' [Row al l.length cl 3 1 ((enL l).map (.int .i64)), Blk b5 (.cells #[.slice ac ys.length cc] 24 (0, 0)), Row ac ys.length cc 34 2 (cSp ys), Blk b2 (.cells #[.slice a n c] 24 (0, 0))] ∧ k ≤ ys.length + 2) (fun k => ys.length + 2 - k) 0 ⟨hs, by omega⟩ (by repeat' (first | exact trivial | exact rfl | apply And.intro)) ?_
      rintro k w1 ⟨hs1, hk⟩ ih
      have hs : St w NoF w1 [_, _, _, _] := hs1
      by_cases hlt : k < ys.length + 2
      · obtain ⟨s, hsd⟩ : ∃ s, s = atF ys k := ⟨_, rfl⟩
        have hap := apart1 hr h0 k
        rw [← hld, ← hsd] at hap
        have hkk : inK .i64 ((k : Nat) : Int) := by unfold inK; simp only [IntKind.min, IntKind.max, IntKind.bits, IntKind.signed]; simp; omega
        by_cases hq : s.1 = t
        · rw [decide_eq_true hq] at hap
          have hz : ¬ (s.1 = 0 ∧ s.2 = 0) := fun q => h0 (by rw [← hq]; exact q.1)
          have hb1 : (true != decide (s.1 = t)) = false := by simp [hq]
          repeat' (first
            | ((apply al_call 14; refine JL_o (by exact OpR_callF en14 rfl (At_r _ (hG.st hs) ac ys.length cc ys k (RowV.sp (hs.row ac ys.length cc) hok) hkk)) rfl rfl ?_; rintro _ _ ⟨rfl, hE⟩; rw [← hsd]; have hs := hs.ext hE; (try simp only [List.cons_append, List.nil_append] at hs)))
            | ((apply al_call 27; refine JL_o (by exact OpR_callF en27 rfl (contains_r _ al l.length cl (enL l) k (slRows2 hld (hs.row al l.length cl)))) rfl rfl ?_; rintro _ _ ⟨rfl, hE⟩; rw [hap]; have hs := hs.ext hE; (try simp only [List.cons_append, List.nil_append] at hs)))
            | (apply JL_nil)
            | ((first | (apply JL_pure) | (apply JL_pure_on; exact rfl; (first | assumption | exact rfl | exact decide_eq_true (by first | assumption | omega) | exact decide_eq_false (by first | assumption | omega)))); (first
      | (apply as_move; exact OpR_move rfl is_rfl)
      | (apply as_assign; exact OpR_assign rfl is_rfl)
      | (apply as_fieldAddr; exact OpR_fieldAddr0 rfl rfl is_rfl)
      | (apply as_load; first | exact OpR_load' hs rfl rfl is_rfl | exact OpR_load_agg' hs rfl is_rfl)
      | (apply as_add; exact OpR_addn rfl rfl (by omega) (by first | (simp only [Int.reduceAdd]; exact rfl) | exact rfl) is_rfl)
      | (apply as_binOp; first | exact OpR_ibin rfl rfl rfl is_rfl | exact OpR_bne rfl rfl is_rfl)
      | (apply as_pick; exact OpR_pick_t rfl (by first | assumption | rfl | exact decide_eq_true (by first | assumption | omega) | exact decide_eq_false (by first | assumption | omega)) rfl is_rfl)
      | (apply as_extract; exact OpR_extract rfl rfl is_rfl)); first | (exact rfl; exact rfl) | exact rfl)
            | (apply J_seq)
            | (apply J_region)
            | (apply J_block)
            | (apply J_inBlock)
            | (apply J_skip)
            | (apply al_none (t := 9); refine JL_o (by apply as_alloc; exact OpR_alloc' hs) rfl rfl ?_; rintro _ _ ⟨b9, rfl, hb9, hs, hE⟩)
            | (apply al_unit; refine JL_u (by apply as_store; exact OpR_store' hs rfl rfl rfl) rfl ?_; rintro _ _ ⟨hs, hF⟩)
            | (apply aj_cond; first | refine J_dec_t rfl (by first | assumption | omega) ?_ | refine J_cond_f rfl (by first | assumption | rfl | exact decide_eq_true (by first | assumption | omega) | exact decide_eq_false (by first | assumption | omega)) ?_))
          refine ih (k + 1) _ _ ⟨hs.sel [1, 2, 3, 4] (by decide), by omega⟩ (by omega) (by repeat' (first | exact trivial | exact rfl | apply And.intro))
        · rw [decide_eq_false hq] at hap
          have hb1 : (false != decide (s.1 = t)) = false := by simp [hq]
          have hb2 : (false != false) = false := rfl
          by_cases hz : s.1 = 0 ∧ s.2 = 0
          all_goals
            repeat' (first
              | ((apply al_call 14; refine JL_o (by exact OpR_callF en14 rfl (At_r _ (hG.st hs) ac ys.length cc ys k (RowV.sp (hs.row ac ys.length cc) hok) hkk)) rfl rfl ?_; rintro _ _ ⟨rfl, hE⟩; rw [← hsd]; have hs := hs.ext hE; (try simp only [List.cons_append, List.nil_append] at hs)))
              | ((apply al_call 27; refine JL_o (by exact OpR_callF en27 rfl (contains_r _ al l.length cl (enL l) k (slRows2 hld (hs.row al l.length cl)))) rfl rfl ?_; rintro _ _ ⟨rfl, hE⟩; rw [hap]; have hs := hs.ext hE; (try simp only [List.cons_append, List.nil_append] at hs)))
              | (apply JL_nil)
              | ((first | (apply JL_pure) | (apply JL_pure_on; exact rfl; (first | assumption | exact rfl | exact decide_eq_true (by first | assumption | omega) | exact decide_eq_false (by first | assumption | omega)))); (first
      | (apply as_move; exact OpR_move rfl is_rfl)
      | (apply as_assign; exact OpR_assign rfl is_rfl)
      | (apply as_fieldAddr; exact OpR_fieldAddr0 rfl rfl is_rfl)
      | (apply as_load; first | exact OpR_load' hs rfl rfl is_rfl | exact OpR_load_agg' hs rfl is_rfl)
      | (apply as_add; exact OpR_addn rfl rfl (by omega) (by first | (simp only [Int.reduceAdd]; exact rfl) | exact rfl) is_rfl)
      | (apply as_binOp; first | exact OpR_ibin rfl rfl rfl is_rfl | exact OpR_bne rfl rfl is_rfl)
      | (apply as_pick; first | exact OpR_pick_t rfl (by first | assumption | rfl | exact decide_eq_true (by first | assumption | omega) | exact decide_eq_false (by first | assumption | omega)) rfl is_rfl | exact OpR_pick_f rfl (by first | assumption | rfl | exact decide_eq_true (by first | assumption | omega) | exact decide_eq_false (by first | assumption | omega)) rfl is_rfl)
      | (apply as_extract; exact OpR_extract rfl rfl is_rfl)); first | (exact rfl; exact rfl) | exact rfl)
              | (apply J_seq)
              | (apply J_region)
              | (apply J_block)
              | (apply J_inBlock)
              | (apply J_skip)
              | (apply al_none (t := 9); refine JL_o (by apply as_alloc; exact OpR_alloc' hs) rfl rfl ?_; rintro _ _ ⟨b9, rfl, hb9, hs, hE⟩)
              | (apply al_unit; refine JL_u (by apply as_store; exact OpR_store' hs rfl rfl rfl) rfl ?_; rintro _ _ ⟨hs, hF⟩)
              | (apply al_guard; (refine JL_no rfl (by first | assumption | rfl | exact decide_eq_true (by first | assumption | omega) | exact decide_eq_false (by first | assumption | omega)) rfl ?_))
              | (apply aj_cond; first | refine J_dec_t rfl (by first | assumption | omega) ?_ | refine J_cond_f rfl (by first | assumption | rfl | exact decide_eq_true (by first | assumption | omega) | exact decide_eq_false (by first | assumption | omega)) ?_))
            refine ih (k + 1) _ _ ⟨hs.sel [1, 2, 3, 4] (by decide), by omega⟩ (by omega) (by repeat' (first | exact trivial | exact rfl | apply And.intro))
      · repeat' (first
          | (apply JL_nil)
          | ((apply JL_pure); (first
      | (apply as_move; exact OpR_move rfl is_rfl)
      | (apply as_binOp; exact OpR_ibin rfl rfl rfl is_rfl)
      | (apply as_b_len; exact OpR_len rfl is_rfl)); first | (exact rfl; exact rfl) | exact rfl)
          | (apply J_seq)
          | (apply J_region)
          | (apply J_block)
          | (apply aj_exit; refine J_exit rfl ?_)
          | (apply aj_cond; refine J_dec_f rfl (by first | assumption | omega) ?_))
        refine J_loopK (α := Nat) [(5, _), (57, _), (58, _)] (fun j => [(7, .int .i64 (lastR ys l j)), (59, .int .i64 j)]) (fun j w' => St w NoF w' [Row al l.length cl 3 1 ((enL l).map (.int .i64)), Blk b5 (.cells #[.slice ac ys.length cc] 24 (0, 0)), Row ac ys.length cc 34 2 (cSp ys), Blk b2 (.cells #[.slice a n c] 24 (0, 0))] ∧ j ≤ l.length) (fun j => l.length - j) 0 ⟨hs, by omega⟩ (by repeat' (first | exact trivial | exact rfl | apply And.intro)) ?_
        rintro j w2 ⟨hs2, hj⟩ ih2
        have hs : St w NoF w2 [_, _, _, _] := hs2
        by_cases hlt2 : j < l.length
        · obtain ⟨p2, o2, rfl⟩ := (hs.row al l.length cl).some (by omega)
          have hy : l[j]? = some l[j] := List.getElem?_eq_getElem hlt2
          obtain ⟨i, hid⟩ : ∃ i, i = l[j] := ⟨_, rfl⟩
          rw [← hid] at hy
          have hcy : ((enL l).map (Value.int .i64))[j]? = some (.int .i64 (i : Nat)) := by simp [enL, hy]
          have hi1 := (mem_rowsF (hld ▸ List.mem_of_getElem? hy)).1
          have hkk : inK .i64 ((i : Nat) : Int) := by unfold inK; simp only [IntKind.min, IntKind.max, IntKind.bits, IntKind.signed]; simp; omega
          have hap := apart2 (hld ▸ hy)
          rw [← hld] at hap
          have hla : lastR ys l (j + 1) = (atF ys i).2 := by unfold lastR; rw [if_neg (by omega), Nat.add_sub_cancel, List.getD_eq_getElem?_getD, hy]; rfl
          obtain ⟨s, hsd⟩ : ∃ s, s = atF ys i := ⟨_, rfl⟩
          rw [← hsd] at hap hla
          repeat' (first
            | ((apply al_call 14; refine JL_o (by exact OpR_callF en14 rfl (At_r _ (hG.st hs) ac ys.length cc ys i (RowV.sp (hs.row ac ys.length cc) hok) hkk)) rfl rfl ?_; rintro _ _ ⟨rfl, hE⟩; rw [← hsd]; have hs := hs.ext hE; (try simp only [List.cons_append, List.nil_append] at hs)))
            | (apply JL_nil)
            | ((apply JL_pure); (first
      | (apply as_load; first | exact OpR_load' hs rfl rfl is_rfl | exact OpR_load_agg' hs rfl is_rfl | exact OpR_loadRow (b := p2) (o := o2) (i := j) (n := l.length) (c := cl) hs rfl hcy is_rfl)
      | (apply as_move; exact OpR_move rfl is_rfl)
      | (apply as_assign; exact OpR_assign rfl is_rfl)
      | (apply as_fieldAddr; exact OpR_fieldAddr0 rfl rfl is_rfl)
      | (apply as_add; exact OpR_addn rfl rfl (by omega) (by first | (simp only [Int.reduceAdd]; exact rfl) | exact rfl) is_rfl)
      | (apply as_binOp; exact OpR_ibin rfl rfl rfl is_rfl)
      | (apply as_extract; exact OpR_extract rfl rfl is_rfl)
      | (apply as_indexAddr; exact OpR_indexAddr rfl rfl (by omega) (by omega) is_rfl)); first | (exact rfl; exact rfl) | exact rfl)
            | (apply J_seq)
            | (apply J_region)
            | (apply J_block)
            | (apply J_inBlock)
            | (apply J_skip)
            | (apply al_none (t := 13); refine JL_o (by apply as_alloc; exact OpR_alloc' hs) rfl rfl ?_; rintro _ _ ⟨b13, rfl, hb13, hs, hE⟩)
            | (apply al_unit; refine JL_u (by apply as_store; exact OpR_store' hs rfl rfl rfl) rfl ?_; rintro _ _ ⟨hs, hF⟩)
            | (apply aj_cond; first | refine J_dec_t rfl (by first | assumption | omega) ?_ | refine J_dec_f rfl (by first | assumption | omega) ?_))
          refine ih2 (j + 1) _ _ ⟨hs.sel [1, 2, 3, 4] (by decide), by omega⟩ (by omega) (by rw [hla]; repeat' (first | exact trivial | exact rfl | apply And.intro))
        · repeat' (first
            | (apply JL_nil)
            | ((apply JL_pure); (first
      | (apply as_assign; exact OpR_assign rfl is_rfl)
      | (apply as_binOp; exact OpR_ibin rfl rfl rfl is_rfl)); first | (exact rfl; exact rfl) | exact rfl)
            | (apply J_seq)
            | (apply J_region)
            | (apply aj_exit; refine J_exit rfl ?_)
            | (apply aj_cond; refine J_dec_f rfl (by first | assumption | omega) ?_))
          refine J_leave Tryd.func5 rfl (.tmp rfl .nil) ⟨rfl, hs.frm.ext⟩
  · have hr' : rightB ys = false := by simpa using hr
    have hl0 : l = [] := by rw [hld]; unfold rowsF; rw [if_neg hr]
    repeat' (first
      | ((apply al_call 8; refine JL_o (by exact OpR_callF en8 rfl (wakes_r _ (hG.st hs))) rfl rfl ?_; rintro _ _ ⟨rfl, hE⟩; have hs := hs.ext hE; (try simp only [List.cons_append, List.nil_append] at hs)))
      | ((apply al_call 9; refine JL_o (by exact OpR_callF en9 rfl (own_r _ a n c xs (h.st hs))) rfl rfl ?_; rintro _ _ ⟨ac, cc, rfl, hf⟩; rw [← hys] at hf ⊢; have hs := hs.fresh hf; (try simp only [List.cons_append, List.nil_append] at hs)))
      | ((apply al_call 15; refine JL_o (by exact OpR_callF en15 rfl (Rows_r _ (hG.st hs) ac ys.length cc ys t (RowV.sp (hs.row ac ys.length cc) hok))) rfl rfl ?_; rintro _ _ ⟨al, cl, rfl, hf⟩; rw [← hld] at hf ⊢; have hs := hs.fresh hf; (try simp only [List.cons_append, List.nil_append] at hs)))
      | ((apply al_call 11; refine JL_o (by exact OpR_callF en11 rfl (check_v (hG.st hs) (RowV.sp (hs.row ac ys.length cc) hok) hr')) rfl rfl ?_; rintro _ _ ⟨rfl, hE⟩; have hs := hs.ext hE; (try simp only [List.cons_append, List.nil_append] at hs)))
      | (apply JL_nil)
      | ((apply JL_pure); (first
      | (apply as_move; exact OpR_move rfl is_rfl)
      | (apply as_assign; exact OpR_assign rfl is_rfl)
      | (apply as_load; exact OpR_load_agg' hs rfl is_rfl)
      | (apply as_binOp; exact OpR_ibin rfl rfl rfl is_rfl)
      | (apply as_unOp; exact OpR_not rfl is_rfl)
      | (apply as_pick; exact OpR_pick_t rfl (by first | assumption | rfl | exact decide_eq_true (by first | assumption | omega) | exact decide_eq_false (by first | assumption | omega)) rfl is_rfl)
      | (apply as_b_len; exact OpR_len rfl is_rfl)); first | (exact rfl; exact rfl) | exact rfl)
      | (apply J_seq)
      | (apply J_region)
      | (apply J_skip)
      | (apply al_none (t := 2); refine JL_o (by apply as_box; exact OpR_box' hs rfl) rfl rfl ?_; rintro _ _ ⟨b2, rfl, hb2, hs, hE⟩)
      | (apply al_none (t := 5); refine JL_o (by apply as_alloc; exact OpR_alloc' hs) rfl rfl ?_; rintro _ _ ⟨b5, rfl, hb5, hs, hE⟩)
      | (apply al_unit; refine JL_u (by apply as_store; exact OpR_store' hs rfl rfl rfl) rfl ?_; rintro _ _ ⟨hs, hF⟩)
      | (apply al_guard; (refine JL_no rfl (by first | assumption | rfl | exact decide_eq_true (by first | assumption | omega) | exact decide_eq_false (by first | assumption | omega)) rfl ?_))
      | (apply aj_cond; first | refine J_cond_t rfl (by first | assumption | rfl | exact decide_eq_true (by first | assumption | omega) | exact decide_eq_false (by first | assumption | omega)) ?_ | refine J_cond_f rfl (by first | assumption | rfl | exact decide_eq_true (by first | assumption | omega) | exact decide_eq_false (by first | assumption | omega)) ?_))
    refine J_leave Tryd.func5 rfl (.tmp rfl .nil) ⟨by simp [mkRes, hl0], hs.frm.ext⟩
end Go.Eng
/- Record: records by what stands where. -/
namespace Go.Eng
open Go.Proofs
set_option linter.unusedSimpArgs false
set_option linter.unusedVariables false
/-- What stands at place k, the index k + 1. -/
def gt (xs : List Sp) (k : Nat) : Sp := xs.getD k (0, 0)
theorem gt_lt {xs : List Sp} {k : Nat} (h : k < xs.length) : gt xs k = xs[k] := by unfold gt; rw [List.getD_eq_getElem?_getD, List.getElem?_eq_getElem h]; rfl
theorem gt_ge {xs : List Sp} {k : Nat} (h : xs.length ≤ k) : gt xs k = (0, 0) := by unfold gt; rw [List.getD_eq_getElem?_getD, List.getElem?_eq_none h]; rfl
theorem gt_some {xs : List Sp} {k : Nat} {s : Sp} (h : xs[k]? = some s) : gt xs k = s := by unfold gt; rw [List.getD_eq_getElem?_getD, h]; rfl
theorem some_gt {xs : List Sp} {k : Nat} {s : Sp} (h : gt xs k = s) (h0 : s ≠ (0, 0)) : xs[k]? = some s := by
  by_cases hk : k < xs.length
  · rw [gt_lt hk] at h; rw [List.getElem?_eq_getElem hk, h]
  · exact absurd (by rw [← h, gt_ge (by omega)]) h0
theorem atM_gt (xs : List Sp) (k : Nat) : atM xs ((k + 1 : Nat) : Int) = gt xs k := by
  unfold atM gt
  by_cases h : k < xs.length
  · rw [if_pos (by omega), show (((k + 1 : Nat) : Int) - 1).toNat = k by omega]
  · rw [if_neg (by omega), List.getD_eq_getElem?_getD, List.getElem?_eq_none (by omega)]; rfl
theorem atM_low {xs : List Sp} {i : Int} (h : i < 1) : atM xs i = (0, 0) := by unfold atM; rw [if_neg (by omega)]
/-- An index is a place, or nobody's. -/
theorem atM_or (xs : List Sp) (i : Int) : (i < 1 ∧ atM xs i = (0, 0)) ∨ ∃ k : Nat, i = ((k + 1 : Nat) : Int) ∧ atM xs i = gt xs k := by
  by_cases h : i < 1
  · exact .inl ⟨h, atM_low h⟩
  · refine .inr ⟨(i - 1).toNat, by omega, ?_⟩
    rw [← atM_gt]; congr 1; omega
def Trimd (xs : List Sp) : Prop := xs.getLast? ≠ some (0, 0)
theorem gt_ext {xs ys : List Sp} (hx : Trimd xs) (hy : Trimd ys) (h : ∀ k, gt xs k = gt ys k) : xs = ys := by
  have key : ∀ {xs ys : List Sp}, Trimd ys → (∀ k, gt xs k = gt ys k) → ys.length ≤ xs.length := by
    intro xs ys hy h
    by_cases hl : ys.length ≤ xs.length
    · exact hl
    · exfalso
      refine hy ?_
      have h1 := h (ys.length - 1)
      rw [gt_ge (by omega), gt_lt (by omega)] at h1
      rw [List.getLast?_eq_getElem?, List.getElem?_eq_getElem (by omega), ← h1]
  have hl : xs.length = ys.length := Nat.le_antisymm (key hx (fun k => (h k).symm)) (key hy h)
  refine List.ext_getElem hl (fun k h1 h2 => ?_)
  have := h k
  rwa [gt_lt h1, gt_lt h2] at this
theorem gt_put {xs : List Sp} {i : Nat} {s : Sp} (hi : 1 ≤ i) (k : Nat) : gt (putM xs i s) k = if k + 1 = i then s else gt xs k := by
  unfold gt
  simp only [putM, List.getD_eq_getElem?_getD, List.getElem?_set]
  by_cases h : k + 1 = i
  · rw [if_pos (by omega), if_pos (by rw [growM_len]; omega), if_pos h]; rfl
  · rw [if_neg (by omega), if_neg h]
    unfold growM
    by_cases hk : k < xs.length
    · rw [List.getElem?_append_left hk]
    · rw [List.getElem?_append_right (by omega), List.getElem?_eq_none (l := xs) (by omega), List.getElem?_replicate]
      split <;> rfl
theorem trimN_stop (p : Sp → Bool) (xs : List Sp) : ∀ m, trimN p xs m = 0 ∨ ∃ q, trimN p xs m = q + 1 ∧ p (gt xs q) = false
  | 0 => .inl rfl
  | m + 1 => by
    rw [trimN]
    by_cases h : p (xs.getD m (0, 0)) = true
    · rw [if_pos h]; exact trimN_stop p xs m
    · rw [if_neg h]; exact .inr ⟨m, rfl, by unfold gt; simpa using h⟩
theorem trimN_above (p : Sp → Bool) (xs : List Sp) : ∀ m k, trimN p xs m ≤ k → k < m → p (gt xs k) = true
  | 0, k, _, h => absurd h (by omega)
  | m + 1, k, h1, h2 => by
    rw [trimN] at h1
    by_cases h : p (xs.getD m (0, 0)) = true
    · rw [if_pos h] at h1
      by_cases hk : k = m
      · rw [hk]; exact h
      · exact trimN_above p xs m k h1 (by omega)
    · rw [if_neg h] at h1; omega
theorem nwB_iff {s : Sp} : nwB s = true ↔ s = (0, 0) := by
  unfold nwB; rw [decide_eq_true_eq]
  exact ⟨fun h => Prod.ext h.1 h.2, fun h => by rw [h]; exact ⟨rfl, rfl⟩⟩
theorem gt_trim (xs : List Sp) (k : Nat) : gt (trimM nwB xs) k = gt xs k := by
  have hle := trimN_le nwB xs xs.length
  by_cases h : k < trimN nwB xs xs.length
  · unfold gt trimM
    rw [List.getD_eq_getElem?_getD, List.getD_eq_getElem?_getD, List.getElem?_take, if_pos h]
  · rw [gt_ge (by rw [trimM_len]; omega)]
    by_cases hk : k < xs.length
    · exact (nwB_iff.1 (trimN_above nwB xs xs.length k (by omega) hk)).symm
    · rw [gt_ge (by omega)]
theorem trimd_trim (xs : List Sp) : Trimd (trimM nwB xs) := by
  unfold Trimd
  have hle := trimN_le nwB xs xs.length
  have hl := trimM_len nwB xs
  rcases trimN_stop nwB xs xs.length with h | ⟨q, h, hq⟩
  · rw [List.eq_nil_of_length_eq_zero (hl.trans h)]; simp
  · intro he
    rw [List.getLast?_eq_getElem?, hl, h, Nat.add_sub_cancel] at he
    have h1 := gt_some he
    rw [gt_trim] at h1
    rw [h1] at hq
    exact absurd (nwB_iff.2 rfl) (by rw [hq]; simp)
theorem trim_id {xs : List Sp} (h : Trimd xs) : trimM nwB xs = xs := gt_ext (trimd_trim xs) h (gt_trim xs)
theorem trim_t0 {xs : List Sp} (h : ∀ k, spotR (gt xs k) = true) : trimM t0B xs = trimM nwB xs := by
  have key : ∀ m, trimN t0B xs m = trimN nwB xs m := by
    intro m
    induction m with
    | zero => rfl
    | succ m ih =>
      rw [trimN, trimN, ih]
      have h1 := h m
      have : t0B (xs.getD m (0, 0)) = nwB (xs.getD m (0, 0)) := by
        have h1 : spotR (xs.getD m (0, 0)) = true := h m
        unfold spotR at h1; unfold t0B nwB
        rw [decide_eq_true_eq] at h1
        rw [decide_eq_decide]; omega
      rw [this]
  unfold trimM; rw [key]
structure RightV (xs : List Sp) : Prop where
  len : xs.length ≤ 1048578
  trim : Trimd xs
  spot : ∀ k, spotR (gt xs k) = true
  inj : ∀ i j, 0 < (gt xs i).1 → gt xs i = gt xs j → i = j
theorem rightV_iff {xs : List Sp} : rightB xs = true ↔ RightV xs := by
  rw [right_iff]
  constructor
  · rintro ⟨h1, h2, h3⟩
    refine ⟨h1, fun h => h2 _ h rfl, fun k => ?_, fun i j hi hij => ?_⟩
    · by_cases hk : k < xs.length
      · rw [gt_lt hk]; exact (h3 k _ (List.getElem?_eq_getElem hk)).1
      · rw [gt_ge (by omega)]; decide
    · have n0 : gt xs i ≠ (0, 0) := fun e => by rw [e] at hi; simp at hi
      have hx := some_gt rfl n0
      have hy := some_gt (xs := xs) (k := j) rfl (by rw [← hij]; exact n0)
      rw [← hij] at hy
      rcases Nat.lt_trichotomy i j with h | h | h
      · exact absurd rfl ((h3 j _ hy).2 hi i _ h hx)
      · exact h
      · exact absurd rfl ((h3 i _ hx).2 hi j _ h hy)
  · rintro ⟨h1, h2, h3, h4⟩
    refine ⟨h1, fun s hs h0 => ?_, fun i s hs => ⟨by rw [← gt_some hs]; exact h3 i, fun hp j t hj ht e => ?_⟩⟩
    · rw [List.getLast?_eq_getElem?] at hs
      have h5 := h3 (xs.length - 1)
      rw [gt_some hs] at h5
      have : s = (0, 0) := by
        unfold spotR at h5; rw [decide_eq_true_eq] at h5
        exact Prod.ext h0 (by show s.2 = 0; omega)
      refine h2 ?_
      rw [List.getLast?_eq_getElem?, hs, this]
    · have := h4 i j (by rw [gt_some hs]; exact hp) (by rw [gt_some hs, gt_some ht, e])
      omega
theorem rightV_put {xs : List Sp} (h : RightV xs) {i : Nat} {s : Sp} (hi : 1 ≤ i ∧ i ≤ 1048578) (hs : spotR s = true) (hn : 0 < s.1 → ∀ k, k + 1 ≠ i → gt xs k ≠ s) : RightV (trimM nwB (putM xs i s)) := by
  refine ⟨?_, trimd_trim _, fun k => ?_, fun a b ha hab => ?_⟩
  · have := trimM_le nwB (putM xs i s)
    rw [putM_len] at this
    have := h.len; omega
  · rw [gt_trim, gt_put hi.1]
    split
    · exact hs
    · exact h.spot k
  · rw [gt_trim, gt_put hi.1] at ha
    rw [gt_trim, gt_put hi.1, gt_trim, gt_put hi.1] at hab
    by_cases h1 : a + 1 = i
    · rw [if_pos h1] at ha hab
      by_cases h2 : b + 1 = i
      · omega
      · rw [if_neg h2] at hab
        exact absurd hab.symm (hn ha b h2)
    · rw [if_neg h1] at ha hab
      by_cases h2 : b + 1 = i
      · rw [if_pos h2] at hab
        exact absurd hab (hn (by rw [← hab]; exact ha) a h1)
      · rw [if_neg h2] at hab
        exact h.inj a b ha hab
theorem whoM_or (xs : List Sp) (s : Sp) : (whoM xs s = 0 ∧ (s ≠ (0, 0) → ∀ k, gt xs k ≠ s)) ∨ ∃ k, whoM xs s = k + 1 ∧ gt xs k = s ∧ s ≠ (0, 0) := by
  unfold whoM
  cases h : (standG 0 xs).find? (fun p => decide (p.2 = s)) with
  | none =>
    refine .inl ⟨rfl, fun h0 k hk => ?_⟩
    rw [List.find?_eq_none] at h
    have hx := some_gt hk h0
    have hm := List.mem_of_getElem? (standG_get hx h0)
    have := h _ hm
    simp at this
  | some p =>
    have hm := List.mem_of_find?_eq_some h
    have he := List.find?_some h
    rw [decide_eq_true_eq] at he
    obtain ⟨h1, h2⟩ := standG_mem hm
    refine .inr ⟨p.1 - 1, ?_, ?_, ?_⟩
    · simp only [Option.map_some, Option.getD_some]; omega
    · rw [gt_some (by simpa using h2), he]
    · have hne : ∀ {i : Nat} {xs : List Sp} {p : Nat × Sp}, p ∈ standG i xs → p.2 ≠ (0, 0) := by
        intro i xs
        induction xs generalizing i with
        | nil => intro p hp; cases hp
        | cons x xs ih =>
          intro p hp
          rw [standG] at hp
          split at hp
          · exact ih hp
          · rename_i hx
            rcases List.mem_cons.1 hp with rfl | hp
            · exact hx
            · exact ih hp
      rw [← he]; exact hne hm
theorem whoM_at {xs : List Sp} (h : RightV xs) {k : Nat} {s : Sp} (hk : gt xs k = s) (h0 : 0 < s.1) : whoM xs s = k + 1 := by
  have n0 : s ≠ (0, 0) := fun e => by rw [e] at h0; simp at h0
  rcases whoM_or xs s with ⟨_, h1⟩ | ⟨j, h1, h2, _⟩
  · exact absurd hk (h1 n0 k)
  · rw [h1, h.inj j k (by rw [h2]; exact h0) (by rw [h2, hk])]
theorem spotB_iff {s : Sp} : spotB s = true ↔ spotR s = true ∧ s ≠ (0, 0) := by
  rw [spotR_iff]
  constructor
  · intro h
    refine ⟨.inr h, fun e => ?_⟩
    rw [e] at h; revert h; decide
  · rintro ⟨h1 | h1, h2⟩
    · exact absurd h1 h2
    · exact h1
theorem RightV.pos {xs : List Sp} (h : RightV xs) {k : Nat} (h0 : gt xs k ≠ (0, 0)) : spotB (gt xs k) = true ∧ 0 < (gt xs k).1 := by
  have h1 := spotB_iff.2 ⟨h.spot k, h0⟩
  refine ⟨h1, ?_⟩
  unfold spotB at h1; rw [decide_eq_true_eq] at h1; omega
end Go.Eng
/- RecordBack: who is at where an index is is that index; dropped, and put back, they are the same. -/
namespace Go.Eng
open Go.Proofs
set_option linter.unusedSimpArgs false
set_option linter.unusedVariables false
structure BackF (ys : List Sp) (i : Int) (s : Sp) (d : List Sp) : Prop where
  ry : rightB ys = true
  rd : rightB d = true
  dl : d.length ≤ 1048578
  okd : ∀ t ∈ d, t ∈ ys ∨ t = (0, 0)
  e1 : (doesM ys (dropE ys i) (dropY ys i)).1 = d
  e1b : (doesM ys (dropE ys i) (dropY ys i)).2 = 0
  e2 : (doesM d (putE d i (s.1, s.2)) (putY d i (s.1, s.2))).1 = ys
  e2b : (doesM d (putE d i (s.1, s.2)) (putY d i (s.1, s.2))).2 = 0
  e3 : atF d i = (0, 0)
  e4 : (if rightB d then whoM d (s.1, s.2) else 0) = 0
  e6 : (((if rightB ys then whoM ys (s.1, s.2) else 0 : Nat)) : Int) = i
  e6b : 0 < (if rightB ys then whoM ys (s.1, s.2) else 0 : Nat)
  e7 : decide (idxM (enL (rowsF ys s.1)) i ≥ 0) = true
theorem back {ys : List Sp} {i : Int} {s : Sp} (h : atF ys i = s) (h0 : ¬ (s.1 = 0 ∧ s.2 = 0)) : BackF ys i s (trimM nwB (putM ys i.toNat (0, 0))) := by
  have n0 : s ≠ (0, 0) := fun e => h0 ⟨by rw [e], by rw [e]⟩
  have hry : rightB ys = true := by
    cases hb : rightB ys with
    | true => rfl
    | false => unfold atF at h; rw [hb] at h; exact absurd h.symm n0
  have hR := rightV_iff.1 hry
  have ha : atM ys i = s := by unfold atF at h; rwa [if_pos hry] at h
  rcases atM_or ys i with ⟨_, h1⟩ | ⟨k, rfl, h1⟩
  · exact absurd (ha.symm.trans h1) n0
  rw [ha] at h1
  have hgk : gt ys k = s := h1.symm
  have hp := hR.pos (k := k) (by rw [hgk]; exact n0)
  rw [hgk] at hp
  have hkl : k < ys.length := by
    by_cases hk : k < ys.length
    · exact hk
    · exact absurd (hgk.symm.trans (gt_ge (by omega))) n0
  have hlen := hR.len
  rw [Int.toNat_natCast]
  obtain ⟨d, hd⟩ : ∃ d, d = trimM nwB (putM ys (k + 1) (0, 0)) := ⟨_, rfl⟩
  rw [← hd]
  have hgd : ∀ j, gt d j = if j + 1 = k + 1 then (0, 0) else gt ys j := fun j => by rw [hd, gt_trim, gt_put (by omega)]
  have hRd : RightV d := by rw [hd]; exact rightV_put hR (by omega) (by decide) (fun h => by simp at h)
  have hrd := rightV_iff.2 hRd
  have hwd : whoM d s = 0 := by
    rcases whoM_or d s with ⟨h2, _⟩ | ⟨j, _, h2, _⟩
    · exact h2
    · exfalso
      rw [hgd] at h2
      by_cases hj : j + 1 = k + 1
      · rw [if_pos hj] at h2; exact n0 h2.symm
      · rw [if_neg hj] at h2
        have := hR.inj j k (by rw [h2]; exact hp.2) (by rw [h2, hgk])
        omega
  have hde : dropE ys ((k + 1 : Nat) : Int) = 0 := by unfold dropE; rw [ha, if_neg h0]
  have hdy : dropY ys ((k + 1 : Nat) : Int) = putM ys (k + 1) (0, 0) := by unfold dropY; rw [ha, if_neg h0, Int.toNat_natCast]
  have hpb : ¬ pBad ((k + 1 : Nat) : Int) (s.1, s.2) := by
    unfold pBad
    rintro (h2 | h2 | h2)
    · omega
    · omega
    · rw [show ((s.1, s.2) : Sp) = s from rfl, hp.1] at h2; cases h2
  have hpe : putE d ((k + 1 : Nat) : Int) (s.1, s.2) = 0 := by unfold putE; rw [if_neg hpb, if_neg (by rw [show ((s.1, s.2) : Sp) = s from rfl, hwd]; simp)]
  have hpy : putY d ((k + 1 : Nat) : Int) (s.1, s.2) = putM d (k + 1) s := by unfold putY; rw [if_neg hpb, if_neg (by rw [show ((s.1, s.2) : Sp) = s from rfl, hwd]; simp), Int.toNat_natCast]
  have hdoes : ∀ {xs zs : List Sp}, rightB xs = true → doesM xs 0 zs = (trimM nwB zs, 0) := fun h => by unfold doesM; rw [if_pos h, if_pos rfl]
  refine ⟨hry, hrd, hRd.len, fun t ht => ?_, ?_, ?_, ?_, ?_, ?_, ?_, ?_, ?_, ?_⟩
  · rw [hd] at ht
    rcases mem_putM (mem_trimM ht) with h2 | h2 | h2
    · exact .inl h2
    · exact .inr h2
    · exact .inr h2
  · rw [hde, hdy, hdoes hry, hd]
  · rw [hde, hdoes hry]
  · rw [hpe, hpy, hdoes hrd]
    refine gt_ext (trimd_trim _) hR.trim (fun j => ?_)
    rw [gt_trim, gt_put (by omega), hgd]
    by_cases hj : j + 1 = k + 1
    · rw [if_pos hj, show j = k by omega, hgk]
    · rw [if_neg hj, if_neg hj]
  · rw [hpe, hdoes hrd]
  · unfold atF; rw [if_pos hrd, atM_gt, hgd, if_pos rfl]
  · rw [if_pos hrd]; exact hwd
  · rw [if_pos hry, show whoM ys (s.1, s.2) = k + 1 from whoM_at hR hgk hp.2]
  · rw [if_pos hry, show whoM ys (s.1, s.2) = k + 1 from whoM_at hR hgk hp.2]; omega
  · rw [apart1 hry (by omega : s.1 ≠ 0), h]; simp
attribute [local irreducible] Hold J JL JD JX JXat OpR OpG Ret RetV Is Blk Row MapC
set_option maxRecDepth 100000
set_option maxHeartbeats 1000000
theorem recordBack_w (w : World) (hG : Gz w) (a : Option Addr) (n c : Nat) (xs : List Sp) (i : Int) (h : Sl dSp All w a n c xs) (hi : inK .i64 i) :
    Ret Tryd.prog 7 #[.agg #[.slice a n c], .int .i64 i] w fun v w' => v = .bool true ∧ Ext w w' := by
  refine Ret_of (l := [_, _]) Tryd.func7 rfl Tryd.ntmps7 (by simp) ?_
  have hs := St.init w
  obtain ⟨ys, hys⟩ : ∃ ys, ys = xs.take 40 := ⟨_, rfl⟩
  have hyl : ys.length ≤ 40 := by rw [hys]; exact take40 xs
  have hok : ∀ s ∈ ys, okS s := fun s hs => by
    rw [hys] at hs
    obtain ⟨j, hj⟩ := List.mem_iff_getElem?.1 (List.mem_of_mem_take hs); exact h.okSp hj
  obtain ⟨s, hsd⟩ : ∃ s, s = atF ys i := ⟨_, rfl⟩
  by_cases hz : s.1 = 0 ∧ s.2 = 0
  · have hde : (doesM ys (dropE ys i) (dropY ys i)).2 ≠ 0 := by
      unfold doesM
      by_cases hr : rightB ys = true
      · have ha : atM ys i = s := by rw [hsd]; unfold atF; rw [if_pos hr]
        have : dropE ys i = 4 := by unfold dropE; rw [ha, if_pos hz]
        rw [if_pos hr, this]; simp
      · rw [if_neg hr]; decide
    have hnk : (!decide (¬ (s.1 = 0 ∧ s.2 = 0))) = true := by simp [hz]
    repeat' (first
      | ((apply al_call 8; refine JL_o (by exact OpR_callF en8 rfl (wakes_r _ (hG.st hs))) rfl rfl ?_; rintro _ _ ⟨rfl, hE⟩; have hs := hs.ext hE; (try simp only [List.cons_append, List.nil_append] at hs)))
      | ((apply al_call 9; refine JL_o (by exact OpR_callF en9 rfl (own_r _ a n c xs (h.st hs))) rfl rfl ?_; rintro _ _ ⟨ac, cc, rfl, hf⟩; rw [← hys] at hf ⊢; have hs := hs.fresh hf; (try simp only [List.cons_append, List.nil_append] at hs)))
      | ((apply al_call 14; refine JL_o (by exact OpR_callF en14 rfl (At_r _ (hG.st hs) ac ys.length cc ys i (RowV.sp (hs.row ac ys.length cc) hok) hi)) rfl rfl ?_; rintro _ _ ⟨rfl, hE⟩; rw [← hsd]; have hs := hs.ext hE; (try simp only [List.cons_append, List.nil_append] at hs)))
      | ((apply al_call 23; refine JL_o (by exact OpR_callF en23 rfl (Drop_r _ (hG.st hs) ac ys.length cc ys i hi (RowV.sp (hs.row ac ys.length cc) hok) (by omega))) rfl rfl ?_; rintro _ _ ⟨ad, cd, rfl, hf⟩; have hs := hs.fresh hf; (try simp only [List.cons_append, List.nil_append] at hs)))
      | (apply JL_nil)
      | ((first | (apply JL_pure) | (apply JL_pure_on; exact rfl; (first | assumption | exact rfl | exact decide_eq_true (by first | assumption | omega) | exact decide_eq_false (by first | assumption | omega)))); (first
      | (apply as_move; exact OpR_move rfl is_rfl)
      | (apply as_assign; exact OpR_assign rfl is_rfl)
      | (apply as_load; exact OpR_load_agg' hs rfl is_rfl)
      | (apply as_binOp; first | exact OpR_ibin rfl rfl rfl is_rfl | exact OpR_eqT rfl rfl is_rfl)
      | (apply as_unOp; exact OpR_not rfl is_rfl)
      | (apply as_pick; exact OpR_pick_t rfl (by first | assumption | rfl | exact decide_eq_true (by first | assumption | omega) | exact decide_eq_false (by first | assumption | omega)) rfl is_rfl)
      | (apply as_extract; exact OpR_extract rfl rfl is_rfl)
      | (apply as_build; exact OpR_build rfl (by (simp only [bld, placesOf, splice, Value.cells, List.take_succ_cons, List.take_zero, List.drop_succ_cons, List.drop_zero, List.cons_append, List.nil_append, List.length_cons, List.length_nil, List.getElem?_cons_zero, List.getElem?_cons_succ, Option.map_some, List.append_nil, Nat.reduceAdd, Nat.reduceMul, Nat.zero_add, Nat.reduceLeDiff, and_self, if_true, List.toList_toArray, Nat.le_refl, Nat.zero_mul, Nat.one_mul]; first | done | rfl)) is_rfl)); first | (exact rfl; exact rfl) | exact rfl)
      | (apply J_seq)
      | (apply J_region)
      | (apply J_skip)
      | (apply al_none (t := 2); refine JL_o (by apply as_box; exact OpR_box' hs rfl) rfl rfl ?_; rintro _ _ ⟨b2, rfl, hb2, hs, hE⟩)
      | (apply al_none (t := 5); refine JL_o (by apply as_alloc; exact OpR_alloc' hs) rfl rfl ?_; rintro _ _ ⟨b5, rfl, hb5, hs, hE⟩)
      | (apply al_none (t := 6); refine JL_o (by apply as_alloc; exact OpR_alloc' hs) rfl rfl ?_; rintro _ _ ⟨b6, rfl, hb6, hs, hE⟩)
      | (apply al_none (t := 8); refine JL_o (by apply as_alloc; exact OpR_alloc' hs) rfl rfl ?_; rintro _ _ ⟨b8, rfl, hb8, hs, hE⟩)
      | (apply al_unit; refine JL_u (by apply as_store; exact OpR_store' hs rfl rfl rfl) rfl ?_; rintro _ _ ⟨hs, hF⟩)
      | (apply aj_cond; first | refine J_cond_t rfl (by first | assumption | rfl | exact decide_eq_true (by first | assumption | omega) | exact decide_eq_false (by first | assumption | omega)) ?_ | refine J_cond_f rfl (by first | assumption | rfl | exact decide_eq_true (by first | assumption | omega) | exact decide_eq_false (by first | assumption | omega)) ?_))
    refine J_leave Tryd.func7 rfl (.tmp rfl .nil) ⟨by simp [mkRes, hde], hs.frm.ext⟩
  · obtain ⟨d, hd⟩ : ∃ d, d = trimM nwB (putM ys i.toNat (0, 0)) := ⟨_, rfl⟩
    have hB := back hsd.symm hz
    rw [← hd] at hB
    have hokd : ∀ t ∈ d, okS t := fun t ht => by
      rcases hB.okd t ht with h1 | h1
      · exact hok t h1
      · rw [h1]; exact okS0
    have hdl := hB.dl
    have e8 : decide (ys = ys) = true := by simp
    have hnk : (!decide (¬ (s.1 = 0 ∧ s.2 = 0))) = false := by simp [hz]
    have e6 := hB.e6
    have e6b := hB.e6b
    obtain ⟨l, hld⟩ : ∃ l, l = rowsF ys s.1 := ⟨_, rfl⟩
    have e7 := hB.e7
    rw [← hld] at e7
    repeat' (first
      | ((apply al_call 8; refine JL_o (by exact OpR_callF en8 rfl (wakes_r _ (hG.st hs))) rfl rfl ?_; rintro _ _ ⟨rfl, hE⟩; have hs := hs.ext hE; (try simp only [List.cons_append, List.nil_append] at hs)))
      | ((apply al_call 9; refine JL_o (by exact OpR_callF en9 rfl (own_r _ a n c xs (h.st hs))) rfl rfl ?_; rintro _ _ ⟨ac, cc, rfl, hf⟩; rw [← hys] at hf ⊢; have hs := hs.fresh hf; (try simp only [List.cons_append, List.nil_append] at hs)))
      | ((apply al_call 14; refine JL_o (by exact OpR_callF en14 rfl (At_r _ (hG.st hs) ac ys.length cc ys i (RowV.sp (hs.row ac ys.length cc) hok) hi)) rfl rfl ?_; rintro _ _ ⟨rfl, hE⟩; rw [← hsd]; have hs := hs.ext hE; (try simp only [List.cons_append, List.nil_append] at hs)))
      | ((apply al_call 14; refine JL_o (by exact OpR_callF en14 rfl (At_r _ (hG.st hs) ad d.length cd d i (RowV.sp (hs.row ad d.length cd) hokd) hi)) rfl rfl ?_; rintro _ _ ⟨rfl, hE⟩; rw [hB.e3]; have hs := hs.ext hE; (try simp only [List.cons_append, List.nil_append] at hs)))
      | ((apply al_call 19; refine JL_o (by exact OpR_callF en19 rfl (Who_r _ (hG.st hs) ac ys.length cc ys s.1 s.2 (RowV.sp (hs.row ac ys.length cc) hok))) rfl rfl ?_; rintro _ _ ⟨rfl, hE⟩; rw [e6, decide_eq_true e6b]; have hs := hs.ext hE; (try simp only [List.cons_append, List.nil_append] at hs)))
      | ((apply al_call 19; refine JL_o (by exact OpR_callF en19 rfl (Who_r _ (hG.st hs) ad d.length cd d s.1 s.2 (RowV.sp (hs.row ad d.length cd) hokd))) rfl rfl ?_; rintro _ _ ⟨rfl, hE⟩; rw [hB.e4]; have hs := hs.ext hE; (try simp only [List.cons_append, List.nil_append] at hs)))
      | ((apply al_call 23; refine JL_o (by exact OpR_callF en23 rfl (Drop_r _ (hG.st hs) ac ys.length cc ys i hi (RowV.sp (hs.row ac ys.length cc) hok) (by omega))) rfl rfl ?_; rintro _ _ ⟨ad, cd, rfl, hf⟩; rw [hB.e1] at hf; rw [hB.e1, hB.e1b]; have hs := hs.fresh hf; (try simp only [List.cons_append, List.nil_append] at hs)))
      | ((apply al_call 21; refine JL_o (by exact OpR_callF en21 rfl (Put_r _ (hG.st hs) ad d.length cd d i s.1 s.2 hi (RowV.sp (hs.row ad d.length cd) hokd) hdl)) rfl rfl ?_; rintro _ _ ⟨ab, cb, rfl, hf⟩; rw [hB.e2] at hf; rw [hB.e2, hB.e2b]; have hs := hs.fresh hf; (try simp only [List.cons_append, List.nil_append] at hs)))
      | ((apply al_callg 12; refine JL_o_on rfl (by first | assumption | rfl | exact decide_eq_true (by first | assumption | omega) | exact decide_eq_false (by first | assumption | omega)) (by exact OpR_callF en12 rfl (same12_r _ ab ac ys.length cb ys.length cc ys ys (RowV.sp (hs.row ab ys.length cb) hok) (RowV.sp (hs.row ac ys.length cc) hok))) rfl rfl ?_; rintro _ _ ⟨rfl, hE⟩; rw [e8]; have hs := hs.ext hE; (try simp only [List.cons_append, List.nil_append] at hs)))
      | ((apply al_callg 11; refine JL_o_on rfl (by first | assumption | rfl | exact decide_eq_true (by first | assumption | omega) | exact decide_eq_false (by first | assumption | omega)) (by exact OpR_callF en11 rfl (check_v (hG.st hs) (RowV.sp (hs.row ad d.length cd) hokd) hB.rd)) rfl rfl ?_; rintro _ _ ⟨rfl, hE⟩; have hs := hs.ext hE; (try simp only [List.cons_append, List.nil_append] at hs)))
      | ((apply al_callg 15; refine JL_o_on rfl (by first | assumption | rfl | exact decide_eq_true (by first | assumption | omega) | exact decide_eq_false (by first | assumption | omega)) (by exact OpR_callF en15 rfl (Rows_r _ (hG.st hs) ac ys.length cc ys s.1 (RowV.sp (hs.row ac ys.length cc) hok))) rfl rfl ?_; rintro _ _ ⟨al, cl, rfl, hf⟩; rw [← hld] at hf ⊢; have hs := hs.fresh hf; (try simp only [List.cons_append, List.nil_append] at hs)))
      | ((apply al_callg 27; refine JL_o_on rfl (by first | assumption | rfl | exact decide_eq_true (by first | assumption | omega) | exact decide_eq_false (by first | assumption | omega)) (by exact OpR_callF en27 rfl (contains_r _ al l.length cl (enL l) i (slRows2 hld (hs.row al l.length cl)))) rfl rfl ?_; rintro _ _ ⟨rfl, hE⟩; rw [e7]; have hs := hs.ext hE; (try simp only [List.cons_append, List.nil_append] at hs)))
      | (apply JL_nil)
      | ((first | (apply JL_pure) | (apply JL_pure_on; exact rfl; (first | assumption | exact rfl | exact decide_eq_true (by first | assumption | omega) | exact decide_eq_false (by first | assumption | omega)))); (first
      | (apply as_move; exact OpR_move rfl is_rfl)
      | (apply as_assign; exact OpR_assign rfl is_rfl)
      | (apply as_fieldAddr; exact OpR_fieldAddr0 rfl rfl is_rfl)
      | (apply as_load; first | exact OpR_load' hs rfl rfl is_rfl | exact OpR_load_agg' hs rfl is_rfl)
      | (apply as_binOp; exact OpR_ibin rfl rfl rfl is_rfl)
      | (apply as_unOp; exact OpR_not rfl is_rfl)
      | (apply as_pick; exact OpR_pick_t rfl (by first | assumption | rfl | exact decide_eq_true (by first | assumption | omega) | exact decide_eq_false (by first | assumption | omega)) rfl is_rfl)
      | (apply as_extract; exact OpR_extract rfl rfl is_rfl)); first | (exact rfl; exact rfl) | exact rfl)
      | (apply J_seq)
      | (apply J_region)
      | (apply J_skip)
      | (apply al_none (t := 2); refine JL_o (by apply as_box; exact OpR_box' hs rfl) rfl rfl ?_; rintro _ _ ⟨b2, rfl, hb2, hs, hE⟩)
      | (apply al_none (t := 5); refine JL_o (by apply as_alloc; exact OpR_alloc' hs) rfl rfl ?_; rintro _ _ ⟨b5, rfl, hb5, hs, hE⟩)
      | (apply al_none (t := 6); refine JL_o (by apply as_alloc; exact OpR_alloc' hs) rfl rfl ?_; rintro _ _ ⟨b6, rfl, hb6, hs, hE⟩)
      | (apply al_none (t := 12); refine JL_o (by apply as_alloc; exact OpR_alloc' hs) rfl rfl ?_; rintro _ _ ⟨b12, rfl, hb12, hs, hE⟩)
      | (apply al_none (t := 14); refine JL_o (by apply as_alloc; exact OpR_alloc' hs) rfl rfl ?_; rintro _ _ ⟨b14, rfl, hb14, hs, hE⟩)
      | (apply al_none (t := 16); refine JL_o (by apply as_alloc; exact OpR_alloc' hs) rfl rfl ?_; rintro _ _ ⟨b16, rfl, hb16, hs, hE⟩)
      | (apply al_unit; refine JL_u (by apply as_store; exact OpR_store' hs rfl rfl rfl) rfl ?_; rintro _ _ ⟨hs, hF⟩)
      | (apply aj_cond; refine J_cond_f rfl (by first | assumption | rfl | exact decide_eq_true (by first | assumption | omega) | exact decide_eq_false (by first | assumption | omega)) ?_))
    refine J_leave Tryd.func7 rfl (.tmp rfl .nil) ⟨rfl, hs.frm.ext⟩
end Go.Eng
