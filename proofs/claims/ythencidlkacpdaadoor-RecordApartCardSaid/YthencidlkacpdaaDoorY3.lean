/- The texts D28, joined. -/
import Derived.Test.YthencidlkacpdaaDoorY2
/- RecordApart: who stands in a table is told, by rows, and nobody else. -/
namespace Go.Eng
open Go.Proofs
set_option linter.unusedSimpArgs false
set_option linter.unusedVariables false
theorem standG_inc : ∀ (i : Nat) (xs : List Sp), ((standG i xs).map Prod.fst).Pairwise (· < ·) ∧ ∀ j ∈ (standG i xs).map Prod.fst, i < j
  | i, [] => ⟨List.Pairwise.nil, fun _ h => nomatch h⟩
  | i, x :: xs => by
    obtain ⟨h1, h2⟩ := standG_inc (i + 1) xs
    rw [standG]
    split
    · exact ⟨h1, fun j hj => by have := h2 j hj; omega⟩
    · rw [List.map_cons]
      refine ⟨List.pairwise_cons.2 ⟨fun j hj => h2 j hj, h1⟩, fun j hj => ?_⟩
      rcases List.mem_cons.1 hj with rfl | hj
      · show i < i + 1; omega
      · have := h2 j hj; omega
theorem tabG_nodup (xs : List Sp) (t : Int) : (tabG xs t).Nodup := by
  unfold tabG
  have h := (standG_inc 0 xs).1
  have hs : (((standG 0 xs).filter (fun p => decide (p.2.1 = t))).map Prod.fst).Sublist ((standG 0 xs).map Prod.fst) := List.filter_sublist.map _
  exact (h.sublist hs).imp (fun h e => by omega)
theorem mem_tabG_iff {xs : List Sp} {t : Int} (ht : t ≠ 0) {i : Nat} : i ∈ tabG xs t ↔ (1 ≤ i ∧ i ≤ xs.length) ∧ (atM xs i).1 = t := by
  refine ⟨fun h => ⟨(mem_tabG h).1, (mem_tabG h).2.1⟩, fun ⟨h1, h2⟩ => ?_⟩
  have hx : xs[i - 1]? = some (atM xs i) := by
    unfold atM
    rw [if_pos (by omega), List.getD_eq_getElem?_getD, show ((i : Int) - 1).toNat = i - 1 by omega, List.getElem?_eq_getElem (by omega)]; rfl
  have hne : atM xs i ≠ (0, 0) := fun e => ht (by rw [← h2, e])
  have hg := standG_get hx hne
  refine List.mem_map.2 ⟨(i - 1 + 1, atM xs i), List.mem_filter.2 ⟨List.mem_of_getElem? hg, decide_eq_true h2⟩, ?_⟩
  show i - 1 + 1 = i; omega
theorem rowsF_perm {xs : List Sp} (hr : rightB xs = true) {t : Int} (ht : t ≠ 0) : (rowsF xs t).Perm (tabG xs t) := by
  unfold rowsF; rw [if_pos hr]; exact rowsM_perm ht
theorem rowsF_strict {xs : List Sp} {t : Int} : (rowsF xs t).Pairwise (fun x y : Nat => (atM xs x).2 < (atM xs y).2) := by
  by_cases hr : rightB xs = true
  · by_cases ht : t = 0
    · have : rowsF xs t = [] := by unfold rowsF rowsM; rw [if_pos hr, if_pos ht]
      rw [this]; exact List.Pairwise.nil
    · have hs : (rowsF xs t).Pairwise (fun x y : Nat => (atM xs x).2 ≤ (atM xs y).2) := by unfold rowsF; rw [if_pos hr]; exact rowsM_sorted xs t
      have hn : (rowsF xs t).Nodup := (rowsF_perm hr ht).nodup_iff.2 (tabG_nodup xs t)
      refine (hs.and hn).imp_of_mem (fun {x y} hx hy ⟨h1, h2⟩ => ?_)
      have a1 := mem_tabG ((rowsF_perm hr ht).mem_iff.1 hx)
      have b1 := mem_tabG ((rowsF_perm hr ht).mem_iff.1 hy)
      have c1 := mem_rowsF hx
      rcases Int.lt_or_eq_of_le h1 with h3 | h3
      · exact h3
      · exfalso
        have e : atM xs x = atM xs y := Prod.ext (by rw [a1.2.1, b1.2.1]) h3
        have b2 := b1.2.2
        have a2 := a1.2.2
        rw [e] at a2
        have := right_inj hr a2 b2 (by rw [b1.2.1]; exact c1.2.2.2)
        exact h2 (by omega)
  · have : rowsF xs t = [] := by unfold rowsF; rw [if_neg hr]
    rw [this]; exact List.Pairwise.nil
theorem idxM_mem (l : List Int) (x : Int) : decide (idxM l x ≥ 0) = decide (x ∈ l) := by
  unfold idxM
  cases h : l.findIdx? (fun y => decide (x = y)) with
  | none =>
    rw [List.findIdx?_eq_none_iff] at h
    have : x ∉ l := fun hx => by have := h x hx; simp at this
    simp [this]
  | some i =>
    rw [List.findIdx?_eq_some_iff_getElem] at h
    obtain ⟨h1, h2, _⟩ := h
    have : x ∈ l := by have h3 : x = l[i] := by simpa using h2
                       rw [h3]; exact List.getElem_mem _
    simp [this]
theorem mem_enL {l : List Nat} {i : Nat} : (i : Int) ∈ enL l ↔ i ∈ l := by
  unfold enL
  rw [List.mem_map]
  exact ⟨fun ⟨j, hj, e⟩ => by have : j = i := by omega
                              subst this; exact hj, fun h => ⟨i, h, rfl⟩⟩
/-- Who is told is who stands there. -/
theorem apart1 {xs : List Sp} (hr : rightB xs = true) {t : Int} (ht : t ≠ 0) (i : Nat) : decide (idxM (enL (rowsF xs t)) i ≥ 0) = decide ((atF xs i).1 = t) := by
  have ha : atF xs i = atM xs i := by unfold atF; rw [if_pos hr]
  rw [idxM_mem, ha]
  refine decide_eq_decide.2 ?_
  rw [mem_enL, (rowsF_perm hr ht).mem_iff, mem_tabG_iff ht]
  refine ⟨fun h => h.2, fun h => ⟨?_, h⟩⟩
  have : ¬ ¬ (1 ≤ (i : Int) ∧ (i : Int) ≤ (xs.length : Int)) := fun hn => ht (by rw [← h]; unfold atM; rw [if_neg hn])
  have := Decidable.not_not.1 this
  omega
/-- The row of the last one. -/
def lastR (xs : List Sp) (l : List Nat) (j : Nat) : Int := if j = 0 then -1 else (atF xs (l.getD (j - 1) 0 : Nat)).2
theorem apart2 {xs : List Sp} {t : Int} {j i : Nat} (h : (rowsF xs t)[j]? = some i) : ¬ (atF xs i).2 ≤ lastR xs (rowsF xs t) j := by
  have hr : rightB xs = true := by
    cases hb : rightB xs with
    | true => rfl
    | false => unfold rowsF at h; rw [hb] at h; simp at h
  have ha : ∀ i : Int, atF xs i = atM xs i := fun i => by unfold atF; rw [if_pos hr]
  unfold lastR
  rw [ha]
  by_cases h0 : j = 0
  · rw [if_pos h0]
    have := (atM_row hr i).1; omega
  · rw [if_neg h0, ha]
    obtain ⟨hj, he⟩ := List.getElem?_eq_some_iff.1 h
    have hp := List.pairwise_iff_getElem.1 (rowsF_strict (xs := xs) (t := t)) (j - 1) j (by omega) hj (by omega)
    rw [he] at hp
    have hg : (rowsF xs t).getD (j - 1) 0 = (rowsF xs t)[j - 1] := by rw [List.getD_eq_getElem?_getD, List.getElem?_eq_getElem (by omega)]; rfl
    rw [hg]; omega
theorem slRows2 {w : World} {a : Option Addr} {c : Nat} {xs : List Sp} {t : Int} {l : List Nat} (hl : l = rowsF xs t) (h : RowV w a l.length c 3 1 ((enL l).map (.int .i64))) : Sl (tInt .i64) All w a l.length c (enL l) := by subst hl; exact slRows h
theorem rowsF_len (xs : List Sp) (t : Int) : (rowsF xs t).length ≤ xs.length := by
  unfold rowsF rowsM
  split
  · split
    · simp
    · exact rowsP_len xs t xs.length
  · simp
theorem take40 (xs : List Sp) : (xs.take 40).length ≤ 40 := by simp; omega
attribute [local irreducible] Hold J JL JD JX JXat OpR OpG Ret RetV Is Blk Row MapC
set_option maxRecDepth 100000
set_option maxHeartbeats 1000000
theorem recordApart_w (w : World) (hG : Gz w) (a : Option Addr) (n c : Nat) (xs : List Sp) (t : Int) (h : Sl dSp All w a n c xs) (ht : inK .i64 t) :
    Ret Tryd.prog 5 #[.agg #[.slice a n c], .int .i64 t] w fun v w' => v = .bool true ∧ Ext w w' := by
  refine Ret_of (l := [_, _]) Tryd.func5 rfl Tryd.ntmps5 (by simp) ?_
  have hs := St.init w
  obtain ⟨ys, hys⟩ : ∃ ys, ys = xs.take 40 := ⟨_, rfl⟩
  have hyl : ys.length ≤ 40 := by rw [hys]; exact take40 xs
  have hok : ∀ s ∈ ys, okS s := fun s hs => by
    rw [hys] at hs
    obtain ⟨j, hj⟩ := List.mem_iff_getElem?.1 (List.mem_of_mem_take hs); exact h.okSp hj
  obtain ⟨l, hld⟩ : ∃ l, l = rowsF ys t := ⟨_, rfl⟩
  have hll : l.length ≤ ys.length := by rw [hld]; exact rowsF_len ys t
  by_cases hr : rightB ys = true
  · by_cases h0 : t = 0
    · have hl0 : l = [] := by rw [hld]; unfold rowsF rowsM; rw [if_pos hr, if_pos h0]
      repeat' (first
        | ((apply al_call 8; refine JL_o (by exact OpR_callF en8 rfl (wakes_r _ (hG.st hs))) rfl rfl ?_; rintro _ _ ⟨rfl, hE⟩; have hs := hs.ext hE; (try simp only [List.cons_append, List.nil_append] at hs)))
        | ((apply al_call 9; refine JL_o (by exact OpR_callF en9 rfl (own_r _ a n c xs (h.st hs))) rfl rfl ?_; rintro _ _ ⟨ac, cc, rfl, hf⟩; rw [← hys] at hf ⊢; have hs := hs.fresh hf; (try simp only [List.cons_append, List.nil_append] at hs)))
        | ((apply al_call 15; refine JL_o (by exact OpR_callF en15 rfl (Rows_r _ (hG.st hs) ac ys.length cc ys t (RowV.sp (hs.row ac ys.length cc) hok))) rfl rfl ?_; rintro _ _ ⟨al, cl, rfl, hf⟩; rw [← hld] at hf ⊢; have hs := hs.fresh hf; (try simp only [List.cons_append, List.nil_append] at hs)))
        | ((apply al_call 11; refine JL_o (by exact OpR_callF en11 rfl (check_v (hG.st hs) (RowV.sp (hs.row ac ys.length cc) hok) hr)) rfl rfl ?_; rintro _ _ ⟨rfl, hE⟩; have hs := hs.ext hE; (try simp only [List.cons_append, List.nil_append] at hs)))
        | (apply JL_nil)
        | ((first | (apply JL_pure) | (apply JL_pure_on; exact rfl; (first | assumption | exact rfl | exact decide_eq_true (by first | assumption | omega) | exact decide_eq_false (by first | assumption | omega)))); (first
      | (apply as_move; exact OpR_move rfl is_rfl)
      | (apply as_assign; exact OpR_assign rfl is_rfl)
      | (apply as_load; exact OpR_load_agg' hs rfl is_rfl)
      | (apply as_binOp; exact OpR_ibin rfl rfl rfl is_rfl)
      | (apply as_unOp; exact OpR_not rfl is_rfl)
      | (apply as_pick; exact OpR_pick_f rfl (by first | assumption | rfl | exact decide_eq_true (by first | assumption | omega) | exact decide_eq_false (by first | assumption | omega)) rfl is_rfl)
      | (apply as_b_len; exact OpR_len rfl is_rfl)); first | (exact rfl; exact rfl) | exact rfl)
        | (apply J_seq)
        | (apply J_region)
        | (apply J_skip)
        | (apply al_none (t := 2); refine JL_o (by apply as_box; exact OpR_box' hs rfl) rfl rfl ?_; rintro _ _ ⟨b2, rfl, hb2, hs, hE⟩)
        | (apply al_none (t := 5); refine JL_o (by apply as_alloc; exact OpR_alloc' hs) rfl rfl ?_; rintro _ _ ⟨b5, rfl, hb5, hs, hE⟩)
        | (apply al_unit; refine JL_u (by apply as_store; exact OpR_store' hs rfl rfl rfl) rfl ?_; rintro _ _ ⟨hs, hF⟩)
        | (apply aj_cond; first | refine J_dec_t rfl (by first | assumption | omega) ?_ | refine J_cond_f rfl (by first | assumption | rfl | exact decide_eq_true (by first | assumption | omega) | exact decide_eq_false (by first | assumption | omega)) ?_))
      refine J_leave Tryd.func5 rfl (.tmp rfl .nil) ⟨by simp [mkRes, hl0], hs.frm.ext⟩
    · repeat' (first
        | ((apply al_call 8; refine JL_o (by exact OpR_callF en8 rfl (wakes_r _ (hG.st hs))) rfl rfl ?_; rintro _ _ ⟨rfl, hE⟩; have hs := hs.ext hE; (try simp only [List.cons_append, List.nil_append] at hs)))
        | ((apply al_call 9; refine JL_o (by exact OpR_callF en9 rfl (own_r _ a n c xs (h.st hs))) rfl rfl ?_; rintro _ _ ⟨ac, cc, rfl, hf⟩; rw [← hys] at hf ⊢; have hs := hs.fresh hf; (try simp only [List.cons_append, List.nil_append] at hs)))
        | ((apply al_call 15; refine JL_o (by exact OpR_callF en15 rfl (Rows_r _ (hG.st hs) ac ys.length cc ys t (RowV.sp (hs.row ac ys.length cc) hok))) rfl rfl ?_; rintro _ _ ⟨al, cl, rfl, hf⟩; rw [← hld] at hf ⊢; have hs := hs.fresh hf; (try simp only [List.cons_append, List.nil_append] at hs)))
        | ((apply al_call 11; refine JL_o (by exact OpR_callF en11 rfl (check_v (hG.st hs) (RowV.sp (hs.row ac ys.length cc) hok) hr)) rfl rfl ?_; rintro _ _ ⟨rfl, hE⟩; have hs := hs.ext hE; (try simp only [List.cons_append, List.nil_append] at hs)))
        | (apply JL_nil)
        | ((first | (apply JL_pure) | (apply JL_pure_on; exact rfl; (first | assumption | exact rfl | exact decide_eq_true (by first | assumption | omega) | exact decide_eq_false (by first | assumption | omega)))); (first
      | (apply as_move; exact OpR_move rfl is_rfl)
      | (apply as_assign; exact OpR_assign rfl is_rfl)
      | (apply as_fieldAddr; exact OpR_fieldAddr0 rfl rfl is_rfl)
      | (apply as_load; first | exact OpR_load' hs rfl rfl is_rfl | exact OpR_load_agg' hs rfl is_rfl)
      | (apply as_add; exact OpR_addn rfl rfl (by omega) (by first | (simp only [Int.reduceAdd]; exact rfl) | exact rfl) is_rfl)
      | (apply as_binOp; exact OpR_ibin rfl rfl rfl is_rfl)
      | (apply as_unOp; exact OpR_not rfl is_rfl)
      | (apply as_pick; exact OpR_pick_f rfl (by first | assumption | rfl | exact decide_eq_true (by first | assumption | omega) | exact decide_eq_false (by first | assumption | omega)) rfl is_rfl)
      | (apply as_b_len; exact OpR_len rfl is_rfl)); first | (exact rfl; exact rfl) | exact rfl)
        | (apply J_seq)
        | (apply J_region)
        | (apply J_block)
        | (apply J_skip)
        | (apply al_none (t := 2); refine JL_o (by apply as_box; exact OpR_box' hs rfl) rfl rfl ?_; rintro _ _ ⟨b2, rfl, hb2, hs, hE⟩)
        | (apply al_none (t := 5); refine JL_o (by apply as_alloc; exact OpR_alloc' hs) rfl rfl ?_; rintro _ _ ⟨b5, rfl, hb5, hs, hE⟩)
        | (apply al_unit; refine JL_u (by apply as_store; exact OpR_store' hs rfl rfl rfl) rfl ?_; rintro _ _ ⟨hs, hF⟩)
        | (apply aj_cond; first | refine J_dec_f rfl (by first | assumption | omega) ?_ | refine J_cond_f rfl (by first | assumption | rfl | exact decide_eq_true (by first | assumption | omega) | exact decide_eq_false (by first | assumption | omega)) ?_))
      refine J_loopK (α := Nat) [(1, _), (5, _), (6, _), (7, _), (35, _)] (fun k => [(36, .int .i64 k)]) (fun k w' => St w NoF w' [Row al l.length cl 3 1 ((enL l).map (.int .i64)), Blk b5 (.cells #[.slice ac ys.length cc] 24 (0, 0)), Row ac ys.length cc 34 2 (cSp ys), Blk b2 (.cells #[.slice a n c] 24 (0, 0))] ∧ k ≤ ys.length + 2) (fun k => ys.length + 2 - k) 0 ⟨hs, by omega⟩ (by repeat' (first | exact trivial | exact rfl | apply And.intro)) ?_
      rintro k w1 ⟨hs1, hk⟩ ih
      have hs : St w NoF w1 [_, _, _, _] := hs1
      by_cases hlt : k < ys.length + 2
      · obtain ⟨s, hsd⟩ : ∃ s, s = atF ys k := ⟨_, rfl⟩
        have hap := apart1 hr h0 k
        rw [← hld, ← hsd] at hap
        have hkk : inK .i64 ((k : Nat) : Int) := by unfold inK; simp only [IntKind.min, IntKind.max, IntKind.bits, IntKind.signed]; simp; omega
        by_cases hq : s.1 = t
        · rw [decide_eq_true hq] at hap
          have hz : ¬ (s.1 = 0 ∧ s.2 = 0) := fun q => h0 (by rw [← hq]; exact q.1)
          have hb1 : (true != decide (s.1 = t)) = false := by simp [hq]
          repeat' (first
            | ((apply al_call 14; refine JL_o (by exact OpR_callF en14 rfl (At_r _ (hG.st hs) ac ys.length cc ys k (RowV.sp (hs.row ac ys.length cc) hok) hkk)) rfl rfl ?_; rintro _ _ ⟨rfl, hE⟩; rw [← hsd]; have hs := hs.ext hE; (try simp only [List.cons_append, List.nil_append] at hs)))
            | ((apply al_call 27; refine JL_o (by exact OpR_callF en27 rfl (contains_r _ al l.length cl (enL l) k (slRows2 hld (hs.row al l.length cl)))) rfl rfl ?_; rintro _ _ ⟨rfl, hE⟩; rw [hap]; have hs := hs.ext hE; (try simp only [List.cons_append, List.nil_append] at hs)))
            | (apply JL_nil)
            | ((first | (apply JL_pure) | (apply JL_pure_on; exact rfl; (first | assumption | exact rfl | exact decide_eq_true (by first | assumption | omega) | exact decide_eq_false (by first | assumption | omega)))); (first
      | (apply as_move; exact OpR_move rfl is_rfl)
      | (apply as_assign; exact OpR_assign rfl is_rfl)
      | (apply as_fieldAddr; exact OpR_fieldAddr0 rfl rfl is_rfl)
      | (apply as_load; first | exact OpR_load' hs rfl rfl is_rfl | exact OpR_load_agg' hs rfl is_rfl)
      | (apply as_add; exact OpR_addn rfl rfl (by omega) (by first | (simp only [Int.reduceAdd]; exact rfl) | exact rfl) is_rfl)
      | (apply as_binOp; first | exact OpR_ibin rfl rfl rfl is_rfl | exact OpR_bne rfl rfl is_rfl)
      | (apply as_pick; exact OpR_pick_t rfl (by first | assumption | rfl | exact decide_eq_true (by first | assumption | omega) | exact decide_eq_false (by first | assumption | omega)) rfl is_rfl)
      | (apply as_extract; exact OpR_extract rfl rfl is_rfl)); first | (exact rfl; exact rfl) | exact rfl)
            | (apply J_seq)
            | (apply J_region)
            | (apply J_block)
            | (apply J_inBlock)
            | (apply J_skip)
            | (apply al_none (t := 9); refine JL_o (by apply as_alloc; exact OpR_alloc' hs) rfl rfl ?_; rintro _ _ ⟨b9, rfl, hb9, hs, hE⟩)
            | (apply al_unit; refine JL_u (by apply as_store; exact OpR_store' hs rfl rfl rfl) rfl ?_; rintro _ _ ⟨hs, hF⟩)
            | (apply aj_cond; first | refine J_dec_t rfl (by first | assumption | omega) ?_ | refine J_cond_f rfl (by first | assumption | rfl | exact decide_eq_true (by first | assumption | omega) | exact decide_eq_false (by first | assumption | omega)) ?_))
          refine ih (k + 1) _ _ ⟨hs.sel [1, 2, 3, 4] (by decide), by omega⟩ (by omega) (by repeat' (first | exact trivial | exact rfl | apply And.intro))
        · rw [decide_eq_false hq] at hap
          have hb1 : (false != decide (s.1 = t)) = false := by simp [hq]
          have hb2 : (false != false) = false := rfl
          by_cases hz : s.1 = 0 ∧ s.2 = 0
          all_goals
            repeat' (first
              | ((apply al_call 14; refine JL_o (by exact OpR_callF en14 rfl (At_r _ (hG.st hs) ac ys.length cc ys k (RowV.sp (hs.row ac ys.length cc) hok) hkk)) rfl rfl ?_; rintro _ _ ⟨rfl, hE⟩; rw [← hsd]; have hs := hs.ext hE; (try simp only [List.cons_append, List.nil_append] at hs)))
              | ((apply al_call 27; refine JL_o (by exact OpR_callF en27 rfl (contains_r _ al l.length cl (enL l) k (slRows2 hld (hs.row al l.length cl)))) rfl rfl ?_; rintro _ _ ⟨rfl, hE⟩; rw [hap]; have hs := hs.ext hE; (try simp only [List.cons_append, List.nil_append] at hs)))
              | (apply JL_nil)
              | ((first | (apply JL_pure) | (apply JL_pure_on; exact rfl; (first | assumption | exact rfl | exact decide_eq_true (by first | assumption | omega) | exact decide_eq_false (by first | assumption | omega)))); (first
      | (apply as_move; exact OpR_move rfl is_rfl)
      | (apply as_assign; exact OpR_assign rfl is_rfl)
      | (apply as_fieldAddr; exact OpR_fieldAddr0 rfl rfl is_rfl)
      | (apply as_load; first | exact OpR_load' hs rfl rfl is_rfl | exact OpR_load_agg' hs rfl is_rfl)
      | (apply as_add; exact OpR_addn rfl rfl (by omega) (by first | (simp only [Int.reduceAdd]; exact rfl) | exact rfl) is_rfl)
      | (apply as_binOp; first | exact OpR_ibin rfl rfl rfl is_rfl | exact OpR_bne rfl rfl is_rfl)
      | (apply as_pick; first | exact OpR_pick_t rfl (by first | assumption | rfl | exact decide_eq_true (by first | assumption | omega) | exact decide_eq_false (by first | assumption | omega)) rfl is_rfl | exact OpR_pick_f rfl (by first | assumption | rfl | exact decide_eq_true (by first | assumption | omega) | exact decide_eq_false (by first | assumption | omega)) rfl is_rfl)
      | (apply as_extract; exact OpR_extract rfl rfl is_rfl)); first | (exact rfl; exact rfl) | exact rfl)
              | (apply J_seq)
              | (apply J_region)
              | (apply J_block)
              | (apply J_inBlock)
              | (apply J_skip)
              | (apply al_none (t := 9); refine JL_o (by apply as_alloc; exact OpR_alloc' hs) rfl rfl ?_; rintro _ _ ⟨b9, rfl, hb9, hs, hE⟩)
              | (apply al_unit; refine JL_u (by apply as_store; exact OpR_store' hs rfl rfl rfl) rfl ?_; rintro _ _ ⟨hs, hF⟩)
              | (apply al_guard; (refine JL_no rfl (by first | assumption | rfl | exact decide_eq_true (by first | assumption | omega) | exact decide_eq_false (by first | assumption | omega)) rfl ?_))
              | (apply aj_cond; first | refine J_dec_t rfl (by first | assumption | omega) ?_ | refine J_cond_f rfl (by first | assumption | rfl | exact decide_eq_true (by first | assumption | omega) | exact decide_eq_false (by first | assumption | omega)) ?_))
            refine ih (k + 1) _ _ ⟨hs.sel [1, 2, 3, 4] (by decide), by omega⟩ (by omega) (by repeat' (first | exact trivial | exact rfl | apply And.intro))
      · repeat' (first
          | (apply JL_nil)
          | ((apply JL_pure); (first
      | (apply as_move; exact OpR_move rfl is_rfl)
      | (apply as_binOp; exact OpR_ibin rfl rfl rfl is_rfl)
      | (apply as_b_len; exact OpR_len rfl is_rfl)); first | (exact rfl; exact rfl) | exact rfl)
          | (apply J_seq)
          | (apply J_region)
          | (apply J_block)
          | (apply aj_exit; refine J_exit rfl ?_)
          | (apply aj_cond; refine J_dec_f rfl (by first | assumption | omega) ?_))
        refine J_loopK (α := Nat) [(5, _), (57, _), (58, _)] (fun j => [(7, .int .i64 (lastR ys l j)), (59, .int .i64 j)]) (fun j w' => St w NoF w' [Row al l.length cl 3 1 ((enL l).map (.int .i64)), Blk b5 (.cells #[.slice ac ys.length cc] 24 (0, 0)), Row ac ys.length cc 34 2 (cSp ys), Blk b2 (.cells #[.slice a n c] 24 (0, 0))] ∧ j ≤ l.length) (fun j => l.length - j) 0 ⟨hs, by omega⟩ (by repeat' (first | exact trivial | exact rfl | apply And.intro)) ?_
        rintro j w2 ⟨hs2, hj⟩ ih2
        have hs : St w NoF w2 [_, _, _, _] := hs2
        by_cases hlt2 : j < l.length
        · obtain ⟨p2, o2, rfl⟩ := (hs.row al l.length cl).some (by omega)
          have hy : l[j]? = some l[j] := List.getElem?_eq_getElem hlt2
          obtain ⟨i, hid⟩ : ∃ i, i = l[j] := ⟨_, rfl⟩
          rw [← hid] at hy
          have hcy : ((enL l).map (Value.int .i64))[j]? = some (.int .i64 (i : Nat)) := by simp [enL, hy]
          have hi1 := (mem_rowsF (hld ▸ List.mem_of_getElem? hy)).1
          have hkk : inK .i64 ((i : Nat) : Int) := by unfold inK; simp only [IntKind.min, IntKind.max, IntKind.bits, IntKind.signed]; simp; omega
          have hap := apart2 (hld ▸ hy)
          rw [← hld] at hap
          have hla : lastR ys l (j + 1) = (atF ys i).2 := by unfold lastR; rw [if_neg (by omega), Nat.add_sub_cancel, List.getD_eq_getElem?_getD, hy]; rfl
          obtain ⟨s, hsd⟩ : ∃ s, s = atF ys i := ⟨_, rfl⟩
          rw [← hsd] at hap hla
          repeat' (first
            | ((apply al_call 14; refine JL_o (by exact OpR_callF en14 rfl (At_r _ (hG.st hs) ac ys.length cc ys i (RowV.sp (hs.row ac ys.length cc) hok) hkk)) rfl rfl ?_; rintro _ _ ⟨rfl, hE⟩; rw [← hsd]; have hs := hs.ext hE; (try simp only [List.cons_append, List.nil_append] at hs)))
            | (apply JL_nil)
            | ((apply JL_pure); (first
      | (apply as_load; first | exact OpR_load' hs rfl rfl is_rfl | exact OpR_load_agg' hs rfl is_rfl | exact OpR_loadRow (b := p2) (o := o2) (i := j) (n := l.length) (c := cl) hs rfl hcy is_rfl)
      | (apply as_move; exact OpR_move rfl is_rfl)
      | (apply as_assign; exact OpR_assign rfl is_rfl)
      | (apply as_fieldAddr; exact OpR_fieldAddr0 rfl rfl is_rfl)
      | (apply as_add; exact OpR_addn rfl rfl (by omega) (by first | (simp only [Int.reduceAdd]; exact rfl) | exact rfl) is_rfl)
      | (apply as_binOp; exact OpR_ibin rfl rfl rfl is_rfl)
      | (apply as_extract; exact OpR_extract rfl rfl is_rfl)
      | (apply as_indexAddr; exact OpR_indexAddr rfl rfl (by omega) (by omega) is_rfl)); first | (exact rfl; exact rfl) | exact rfl)
            | (apply J_seq)
            | (apply J_region)
            | (apply J_block)
            | (apply J_inBlock)
            | (apply J_skip)
            | (apply al_none (t := 13); refine JL_o (by apply as_alloc; exact OpR_alloc' hs) rfl rfl ?_; rintro _ _ ⟨b13, rfl, hb13, hs, hE⟩)
            | (apply al_unit; refine JL_u (by apply as_store; exact OpR_store' hs rfl rfl rfl) rfl ?_; rintro _ _ ⟨hs, hF⟩)
            | (apply aj_cond; first | refine J_dec_t rfl (by first | assumption | omega) ?_ | refine J_dec_f rfl (by first | assumption | omega) ?_))
          refine ih2 (j + 1) _ _ ⟨hs.sel [1, 2, 3, 4] (by decide), by omega⟩ (by omega) (by rw [hla]; repeat' (first | exact trivial | exact rfl | apply And.intro))
        · repeat' (first
            | (apply JL_nil)
            | ((apply JL_pure); (first
      | (apply as_assign; exact OpR_assign rfl is_rfl)
      | (apply as_binOp; exact OpR_ibin rfl rfl rfl is_rfl)); first | (exact rfl; exact rfl) | exact rfl)
            | (apply J_seq)
            | (apply J_region)
            | (apply aj_exit; refine J_exit rfl ?_)
            | (apply aj_cond; refine J_dec_f rfl (by first | assumption | omega) ?_))
          refine J_leave Tryd.func5 rfl (.tmp rfl .nil) ⟨rfl, hs.frm.ext⟩
  · have hr' : rightB ys = false := by simpa using hr
    have hl0 : l = [] := by rw [hld]; unfold rowsF; rw [if_neg hr]
    repeat' (first
      | ((apply al_call 8; refine JL_o (by exact OpR_callF en8 rfl (wakes_r _ (hG.st hs))) rfl rfl ?_; rintro _ _ ⟨rfl, hE⟩; have hs := hs.ext hE; (try simp only [List.cons_append, List.nil_append] at hs)))
      | ((apply al_call 9; refine JL_o (by exact OpR_callF en9 rfl (own_r _ a n c xs (h.st hs))) rfl rfl ?_; rintro _ _ ⟨ac, cc, rfl, hf⟩; rw [← hys] at hf ⊢; have hs := hs.fresh hf; (try simp only [List.cons_append, List.nil_append] at hs)))
      | ((apply al_call 15; refine JL_o (by exact OpR_callF en15 rfl (Rows_r _ (hG.st hs) ac ys.length cc ys t (RowV.sp (hs.row ac ys.length cc) hok))) rfl rfl ?_; rintro _ _ ⟨al, cl, rfl, hf⟩; rw [← hld] at hf ⊢; have hs := hs.fresh hf; (try simp only [List.cons_append, List.nil_append] at hs)))
      | ((apply al_call 11; refine JL_o (by exact OpR_callF en11 rfl (check_v (hG.st hs) (RowV.sp (hs.row ac ys.length cc) hok) hr')) rfl rfl ?_; rintro _ _ ⟨rfl, hE⟩; have hs := hs.ext hE; (try simp only [List.cons_append, List.nil_append] at hs)))
      | (apply JL_nil)
      | ((apply JL_pure); (first
      | (apply as_move; exact OpR_move rfl is_rfl)
      | (apply as_assign; exact OpR_assign rfl is_rfl)
      | (apply as_load; exact OpR_load_agg' hs rfl is_rfl)
      | (apply as_binOp; exact OpR_ibin rfl rfl rfl is_rfl)
      | (apply as_unOp; exact OpR_not rfl is_rfl)
      | (apply as_pick; exact OpR_pick_t rfl (by first | assumption | rfl | exact decide_eq_true (by first | assumption | omega) | exact decide_eq_false (by first | assumption | omega)) rfl is_rfl)
      | (apply as_b_len; exact OpR_len rfl is_rfl)); first | (exact rfl; exact rfl) | exact rfl)
      | (apply J_seq)
      | (apply J_region)
      | (apply J_skip)
      | (apply al_none (t := 2); refine JL_o (by apply as_box; exact OpR_box' hs rfl) rfl rfl ?_; rintro _ _ ⟨b2, rfl, hb2, hs, hE⟩)
      | (apply al_none (t := 5); refine JL_o (by apply as_alloc; exact OpR_alloc' hs) rfl rfl ?_; rintro _ _ ⟨b5, rfl, hb5, hs, hE⟩)
      | (apply al_unit; refine JL_u (by apply as_store; exact OpR_store' hs rfl rfl rfl) rfl ?_; rintro _ _ ⟨hs, hF⟩)
      | (apply al_guard; (refine JL_no rfl (by first | assumption | rfl | exact decide_eq_true (by first | assumption | omega) | exact decide_eq_false (by first | assumption | omega)) rfl ?_))
      | (apply aj_cond; first | refine J_cond_t rfl (by first | assumption | rfl | exact decide_eq_true (by first | assumption | omega) | exact decide_eq_false (by first | assumption | omega)) ?_ | refine J_cond_f rfl (by first | assumption | rfl | exact decide_eq_true (by first | assumption | omega) | exact decide_eq_false (by first | assumption | omega)) ?_))
    refine J_leave Tryd.func5 rfl (.tmp rfl .nil) ⟨by simp [mkRes, hl0], hs.frm.ext⟩
end Go.Eng
