/- Column: the reference's rows, and what they are made into. -/
import Derived.Test.YtkeejkengoolpaaC5
namespace Go.Eng
open Go.Proofs
attribute [local irreducible] J JL JD OpR OpG Ret RetV Is Blk Row
set_option maxRecDepth 100000
set_option maxHeartbeats 400000
set_option linter.unusedSimpArgs false
set_option linter.unusedVariables false
def rowsM (W R : Int) (ws : List Int) : List (List Int) := (List.range R.toNat).map (fun (i : Nat) => rowOf W (i : Int) ws)
/-- The reference's Rows. -/
theorem rrows_r (w : World) (W R : Int) (a : Option Addr) (n c : Nat) (ws : List Int) (h : WR w a n c ws) (hB : colB W R n = true) :
    Ret Try.prog 16 #[.agg #[.int .i64 W, .int .i64 R, .slice a n c]] w fun v w' => ∃ Rg a' c' cells, v = .slice a' (rowsM W R ws).length c' ∧ Fresh w w' [Row a' (rowsM W R ws).length c' 31 1 cells, Dats Rg (tSl (tInt .u64)) cells (rowsM W R ws)] := by
  refine Ret_of (l := [_]) Try.func16 rfl Try.ntmps16 (by simp) ?_
  have hs := St.init w
  have hl := h.len
  subst hl
  have hw := colB_W hB
  have hrl : (rowsM W R ws).length = R.toNat := by simp [rowsM]
  repeat' (first
    | ((apply al_none; refine JL_o (by apply as_box; exact OpR_box' hs rfl) rfl rfl ?_; rintro _ _ ⟨b1, rfl, hb1, hs, hE⟩))
    | (apply JL_nil)
    | ((first | (apply JL_pure)); (first
      | (apply as_move; first | exact OpR_move rfl is_rfl)
      | (apply as_assign; first | exact OpR_assign rfl is_rfl)
      | (apply as_fieldAddr; first | exact OpR_fieldAddr0 rfl rfl is_rfl | exact OpR_fieldAddr rfl rfl is_rfl)
      | (apply as_load; first | exact OpR_load' hs rfl rfl is_rfl | exact OpR_load_agg' hs rfl is_rfl)
      | (apply as_add; first | exact OpR_addn rfl rfl (by omega) (by first | (simp only [Int.reduceAdd]; exact rfl) | exact rfl) is_rfl | exact OpR_ibin rfl rfl rfl is_rfl)
      | (apply as_binOp; first | exact OpR_ibin rfl rfl rfl is_rfl | exact OpR_beq rfl rfl is_rfl | exact OpR_bne rfl rfl is_rfl | exact OpR_eqNil rfl rfl is_rfl | exact OpR_neNil rfl rfl is_rfl)
      | (apply as_indexAddr; first | exact OpR_indexAddr rfl rfl (by omega) (by omega) is_rfl | exact OpR_indexAddr_arr' rfl rfl (by omega) (by omega) (by first | (simp only [Int.reduceToNat, Nat.reduceMul, Nat.reduceAdd]; exact rfl) | exact rfl) is_rfl)); first | (exact rfl; exact rfl) | exact rfl)
    | (apply J_seq)
    | (apply J_region)
    | (apply J_block)
    | (apply J_inBlock)
    | (apply aj_exit; refine J_exit rfl ?_)
    | (apply J_skip)
    | (apply al_none; (first | (refine JL_o (by apply as_box; exact OpR_box' hs rfl) rfl rfl ?_) | (refine JL_o (by apply as_alloc; exact OpR_alloc' hs) rfl rfl ?_)); rintro _ _ ⟨_, rfl, hb, hs, hE⟩)
    | (apply aj_cond; first | refine J_dec_t rfl (by first | assumption | omega) ?_ | refine J_dec_f rfl (by first | assumption | omega) ?_ | refine J_cond_t rfl (by first | assumption | rfl | exact decide_eq_true (by first | assumption | omega) | exact decide_eq_false (by first | assumption | omega)) ?_ | refine J_cond_f rfl (by first | assumption | rfl | exact decide_eq_true (by first | assumption | omega) | exact decide_eq_false (by first | assumption | omega)) ?_ | (refine J_cond_dec rfl (fun _ => ?_) (fun _ => ?_)) | (refine J_cond rfl (fun _ => ?_) (fun _ => ?_))))
  have hs : St w NoF _ [Row none 0 0 31 1 [], Dats NoF (tSl (tInt .u64)) [] [], _] := (hs.nilDats (tSl (tInt .u64))).nilRow 31 1
  refine J_loop (α := Nat × Option Addr × Nat × List Value × (Nat → Prop)) (fun g w' => St w NoF w' [Row g.2.1 g.1 g.2.2.1 31 1 g.2.2.2.1, Dats g.2.2.2.2 (tSl (tInt .u64)) g.2.2.2.1 ((rowsM W R ws).take g.1), Blk b1 (.cells #[.int .i64 W, .int .i64 R, .slice a ws.length c] 24 (0, 0))] ∧ (g.1 : Int) ≤ R)
    (fun g => [(1, ptr b1), (3, .slice g.2.1 g.1 g.2.2.1), (8, .int .i64 R), (9, .int .i64 g.1)]) (fun g => R.toNat - g.1) (0, none, 0, [], NoF) ⟨hs, by dsimp only; omega⟩ ⟨rfl, rfl, rfl, rfl, trivial⟩ ?_
  rintro ⟨k, a', c', cells, Rg⟩ w' ⟨hs, hk⟩ ih
  dsimp only at hs hk ih ⊢
  by_cases hlt : (k : Int) < R
  · have hb := row_bd (r := k) hB (by omega)
    have htk : (rowsM W R ws).take (k + 1) = (rowsM W R ws).take k ++ [rowOf W k ws] := by
      rw [List.take_succ_eq_append_getElem (by omega)]; simp [rowsM]
    have hlr : (rowOf W k ws).length = W.toNat := by simp [rowOf]; omega
    repeat' (first
      | (apply JL_nil)
      | ((first | (apply JL_pure)); (first
      | (apply as_move; first | exact OpR_move rfl is_rfl)
      | (apply as_assign; first | exact OpR_assign rfl is_rfl)
      | (apply as_fieldAddr; first | exact OpR_fieldAddr0 rfl rfl is_rfl | exact OpR_fieldAddr rfl rfl is_rfl)
      | (apply as_load; first | exact OpR_load' hs rfl rfl is_rfl | exact OpR_load_agg' hs rfl is_rfl)
      | (apply as_add; first | exact OpR_addn rfl rfl (by omega) (by first | (simp only [Int.reduceAdd]; exact rfl) | exact rfl) is_rfl | exact OpR_ibin rfl rfl rfl is_rfl)
      | (apply as_binOp; first | exact OpR_ibin rfl rfl rfl is_rfl | exact OpR_beq rfl rfl is_rfl | exact OpR_bne rfl rfl is_rfl | exact OpR_eqNil rfl rfl is_rfl | exact OpR_neNil rfl rfl is_rfl)
      | (apply as_indexAddr; first | exact OpR_indexAddr rfl rfl (by omega) (by omega) is_rfl | exact OpR_indexAddr_arr' rfl rfl (by omega) (by omega) (by first | (simp only [Int.reduceToNat, Nat.reduceMul, Nat.reduceAdd]; exact rfl) | exact rfl) is_rfl)); first | (exact rfl; exact rfl) | exact rfl)
      | (apply J_seq)
      | (apply J_region)
      | (apply J_block)
      | (apply J_inBlock)
      | (apply aj_exit; refine J_exit rfl ?_)
      | (apply J_skip)
      | (apply al_none; (first | (refine JL_o (by apply as_box; exact OpR_box' hs rfl) rfl rfl ?_) | (refine JL_o (by apply as_alloc; exact OpR_alloc' hs) rfl rfl ?_)); rintro _ _ ⟨_, rfl, hb, hs, hE⟩)
      | (apply aj_cond; first | refine J_dec_t rfl (by first | assumption | omega) ?_ | refine J_dec_f rfl (by first | assumption | omega) ?_ | refine J_cond_t rfl (by first | assumption | rfl | exact decide_eq_true (by first | assumption | omega) | exact decide_eq_false (by first | assumption | omega)) ?_ | refine J_cond_f rfl (by first | assumption | rfl | exact decide_eq_true (by first | assumption | omega) | exact decide_eq_false (by first | assumption | omega)) ?_ | (refine J_cond_dec rfl (fun _ => ?_) (fun _ => ?_)) | (refine J_cond rfl (fun _ => ?_) (fun _ => ?_))))
    have hs : St w NoF _ [Row none 0 0 41 1 [], _, _, _] := hs.nilRow 41 1
    refine J_loop (α := Nat × Option Addr × Nat) (fun g w' => St w NoF w' [Row g.2.1 g.1 g.2.2 41 1 (u64s ((rowOf W k ws).take g.1)), Row a' k c' 31 1 cells, Dats Rg (tSl (tInt .u64)) cells ((rowsM W R ws).take k), Blk b1 (.cells #[.int .i64 W, .int .i64 R, .slice a ws.length c] 24 (0, 0))] ∧ (g.1 : Int) ≤ W)
      (fun g => [(1, ptr b1), (3, .slice a' k c'), (8, .int .i64 R), (9, .int .i64 k), (4, .int .i64 k), (5, .slice g.2.1 g.1 g.2.2), (13, .int .i64 W), (14, .int .i64 g.1)]) (fun g => W.toNat - g.1) (0, none, 0) ⟨hs, by dsimp only; omega⟩ ⟨rfl, rfl, rfl, rfl, rfl, rfl, rfl, rfl, trivial⟩ ?_
    rintro ⟨j, a2, c2⟩ w2 ⟨hs, hj⟩ ih2
    dsimp only at hs hj ih2 ⊢
    by_cases hjl : (j : Int) < W
    · obtain ⟨b, o, rfl⟩ := h.2.2.2.addr (by omega)
      have hx : ws[(k * W + j).toNat]? = some ws[(k * W + j).toNat] := List.getElem?_eq_getElem (by omega)
      have e1 : ((k : Int) * W + j) = ((k * W + j).toNat : Nat) := by omega
      have htj : (rowOf W k ws).take (j + 1) = (rowOf W k ws).take j ++ [ws[(k * W + j).toNat]] := by
        rw [List.take_succ_eq_append_getElem (by omega)]
        simp only [rowOf, List.getElem_take, List.getElem_drop]
        congr 3; omega
      repeat' (first
        | ((apply al_none; refine JL_o (by apply as_buildSlice; exact OpR_buildSlice hs rfl (by omega) rfl) rfl rfl ?_; rintro _ _ ⟨b5, rfl, hb5, hs, hE⟩))
        | ((apply al_none; refine JL_o (by apply as_b_append; exact OpR_append (xs := u64s ((rowOf W k ws).take j)) hs rfl rfl (src_blk1 hs.blk rfl) plain_blk rfl (by omega) (by unfold maxLen; omega)) rfl rfl ?_; rintro _ _ ⟨a3, c3, rfl, hs, hF, hnil⟩))
        | ((apply al_none; refine JL_pure (by apply as_add; exact OpR_addn rfl rfl (by omega) e1 is_rfl) rfl rfl ?_))
        | (apply JL_nil)
        | ((first | (apply JL_pure)); (first
      | (apply as_load; exact OpR_load_int (i := (k * W + j).toNat) (h.st hs).2.2.2 rfl hx is_rfl)
      | (apply as_mul; exact OpR_mul rfl rfl (by omega) is_rfl)
      | (apply as_move; first | exact OpR_move rfl is_rfl)
      | (apply as_assign; first | exact OpR_assign rfl is_rfl)
      | (apply as_fieldAddr; first | exact OpR_fieldAddr0 rfl rfl is_rfl | exact OpR_fieldAddr rfl rfl is_rfl)
      | (apply as_load; first | exact OpR_load' hs rfl rfl is_rfl | exact OpR_load_agg' hs rfl is_rfl)
      | (apply as_add; first | exact OpR_addn rfl rfl (by omega) (by first | (simp only [Int.reduceAdd]; exact rfl) | exact rfl) is_rfl | exact OpR_ibin rfl rfl rfl is_rfl)
      | (apply as_binOp; first | exact OpR_ibin rfl rfl rfl is_rfl | exact OpR_beq rfl rfl is_rfl | exact OpR_bne rfl rfl is_rfl | exact OpR_eqNil rfl rfl is_rfl | exact OpR_neNil rfl rfl is_rfl)
      | (apply as_indexAddr; first | exact OpR_indexAddr rfl rfl (by omega) (by omega) is_rfl | exact OpR_indexAddr_arr' rfl rfl (by omega) (by omega) (by first | (simp only [Int.reduceToNat, Nat.reduceMul, Nat.reduceAdd]; exact rfl) | exact rfl) is_rfl)); first | (exact rfl; exact rfl) | exact rfl)
        | (apply J_seq)
        | (apply J_region)
        | (apply J_block)
        | (apply J_inBlock)
        | (apply aj_exit; refine J_exit rfl ?_)
        | (apply J_skip)
        | (apply al_none; (first | (refine JL_o (by apply as_box; exact OpR_box' hs rfl) rfl rfl ?_) | (refine JL_o (by apply as_alloc; exact OpR_alloc' hs) rfl rfl ?_)); rintro _ _ ⟨_, rfl, hb, hs, hE⟩)
        | (apply aj_cond; first | refine J_dec_t rfl (by first | assumption | omega) ?_ | refine J_dec_f rfl (by first | assumption | omega) ?_ | refine J_cond_t rfl (by first | assumption | rfl | exact decide_eq_true (by first | assumption | omega) | exact decide_eq_false (by first | assumption | omega)) ?_ | refine J_cond_f rfl (by first | assumption | rfl | exact decide_eq_true (by first | assumption | omega) | exact decide_eq_false (by first | assumption | omega)) ?_ | (refine J_cond_dec rfl (fun _ => ?_) (fun _ => ?_)) | (refine J_cond rfl (fun _ => ?_) (fun _ => ?_))))
      have hs : St w NoF _ [Row a3 (j + 1) c3 41 1 _, _, _, _] := hs.sub (.cons _ (List.Sublist.refl _))
      refine J.to (ih2 (j + 1, a3, c3) _ ⟨by dsimp only; rw [htj, u64s, List.map_append]; exact hs, by dsimp only; omega⟩ (by dsimp only; omega)) ⟨rfl, rfl, rfl, rfl, rfl, rfl, rfl, rfl, trivial⟩
    · have hjW : j = W.toNat := by omega
      have et : (rowOf W k ws).take j = rowOf W k ws := List.take_of_length_le (by omega)
      rw [et] at hs
      have hu : U64 (rowOf W k ws) := fun x hx => h.u64 x (List.mem_of_mem_drop (List.mem_of_mem_take hx))
      have hs := St.rowFrz (k := .u64) hs hu
      repeat' (first
        | ((apply al_none; refine JL_o (by apply as_buildSlice; exact OpR_buildSlice hs rfl (by omega) rfl) rfl rfl ?_; rintro _ _ ⟨b5, rfl, hb5, hs, hE⟩))
        | ((apply al_none; refine JL_o (by apply as_b_append; exact OpR_append (xs := cells) hs rfl rfl (src_blk1 hs.blk rfl) plain_blk rfl (by omega) (by unfold maxLen; omega)) rfl rfl ?_; rintro _ _ ⟨a3, c3, rfl, hs, hF, hnil⟩))
        | (apply JL_nil)
        | ((first | (apply JL_pure)); (first
      | (apply as_move; first | exact OpR_move rfl is_rfl)
      | (apply as_assign; first | exact OpR_assign rfl is_rfl)
      | (apply as_fieldAddr; first | exact OpR_fieldAddr0 rfl rfl is_rfl | exact OpR_fieldAddr rfl rfl is_rfl)
      | (apply as_load; first | exact OpR_load' hs rfl rfl is_rfl | exact OpR_load_agg' hs rfl is_rfl)
      | (apply as_add; first | exact OpR_addn rfl rfl (by omega) (by first | (simp only [Int.reduceAdd]; exact rfl) | exact rfl) is_rfl | exact OpR_ibin rfl rfl rfl is_rfl)
      | (apply as_binOp; first | exact OpR_ibin rfl rfl rfl is_rfl | exact OpR_beq rfl rfl is_rfl | exact OpR_bne rfl rfl is_rfl | exact OpR_eqNil rfl rfl is_rfl | exact OpR_neNil rfl rfl is_rfl)
      | (apply as_indexAddr; first | exact OpR_indexAddr rfl rfl (by omega) (by omega) is_rfl | exact OpR_indexAddr_arr' rfl rfl (by omega) (by omega) (by first | (simp only [Int.reduceToNat, Nat.reduceMul, Nat.reduceAdd]; exact rfl) | exact rfl) is_rfl)); first | (exact rfl; exact rfl) | exact rfl)
        | (apply J_seq)
        | (apply J_region)
        | (apply J_block)
        | (apply J_inBlock)
        | (apply aj_exit; refine J_exit rfl ?_)
        | (apply J_skip)
        | (apply al_none; (first | (refine JL_o (by apply as_box; exact OpR_box' hs rfl) rfl rfl ?_) | (refine JL_o (by apply as_alloc; exact OpR_alloc' hs) rfl rfl ?_)); rintro _ _ ⟨_, rfl, hb, hs, hE⟩)
        | (apply aj_cond; first | refine J_dec_t rfl (by first | assumption | omega) ?_ | refine J_dec_f rfl (by first | assumption | omega) ?_ | refine J_cond_t rfl (by first | assumption | rfl | exact decide_eq_true (by first | assumption | omega) | exact decide_eq_false (by first | assumption | omega)) ?_ | refine J_cond_f rfl (by first | assumption | rfl | exact decide_eq_true (by first | assumption | omega) | exact decide_eq_false (by first | assumption | omega)) ?_ | (refine J_cond_dec rfl (fun _ => ?_) (fun _ => ?_)) | (refine J_cond rfl (fun _ => ?_) (fun _ => ?_))))
      have hs : St w NoF _ [Frz _ _ a2 j c2 _, Row a3 (k + 1) c3 31 1 _, Dats Rg _ cells _, _] := hs.sub (.cons _ (List.Sublist.refl _))
      have hs : St w NoF _ [Frz _ _ a2 j c2 _, Dats Rg _ cells _, Row a3 (k + 1) c3 31 1 _, _] := hs.perm (.cons _ (.swap _ _ _))
      have hs : St w NoF _ [Row a3 (k + 1) c3 31 1 _, Dats _ _ _ _, _] := hs.pushFrz.perm (.swap _ _ _)
      refine J.to (ih (k + 1, a3, c3, cells ++ [.slice a2 j c2], _) _ ⟨by dsimp only; rw [htk]; exact hs, by dsimp only; omega⟩ (by dsimp only; omega)) ⟨rfl, rfl, rfl, rfl, trivial⟩
  · have hkR : k = R.toNat := by omega
    have e : (rowsM W R ws).take k = rowsM W R ws := List.take_of_length_le (by omega)
    rw [e] at hs
    repeat' (first
      | (apply JL_nil)
      | ((first | (apply JL_pure)); (first
      | (apply as_move; first | exact OpR_move rfl is_rfl)
      | (apply as_assign; first | exact OpR_assign rfl is_rfl)
      | (apply as_fieldAddr; first | exact OpR_fieldAddr0 rfl rfl is_rfl | exact OpR_fieldAddr rfl rfl is_rfl)
      | (apply as_load; first | exact OpR_load' hs rfl rfl is_rfl | exact OpR_load_agg' hs rfl is_rfl)
      | (apply as_add; first | exact OpR_addn rfl rfl (by omega) (by first | (simp only [Int.reduceAdd]; exact rfl) | exact rfl) is_rfl | exact OpR_ibin rfl rfl rfl is_rfl)
      | (apply as_binOp; first | exact OpR_ibin rfl rfl rfl is_rfl | exact OpR_beq rfl rfl is_rfl | exact OpR_bne rfl rfl is_rfl | exact OpR_eqNil rfl rfl is_rfl | exact OpR_neNil rfl rfl is_rfl)
      | (apply as_indexAddr; first | exact OpR_indexAddr rfl rfl (by omega) (by omega) is_rfl | exact OpR_indexAddr_arr' rfl rfl (by omega) (by omega) (by first | (simp only [Int.reduceToNat, Nat.reduceMul, Nat.reduceAdd]; exact rfl) | exact rfl) is_rfl)); first | (exact rfl; exact rfl) | exact rfl)
      | (apply J_seq)
      | (apply J_region)
      | (apply J_block)
      | (apply J_inBlock)
      | (apply aj_exit; refine J_exit rfl ?_)
      | (apply J_skip)
      | (apply al_none; (first | (refine JL_o (by apply as_box; exact OpR_box' hs rfl) rfl rfl ?_) | (refine JL_o (by apply as_alloc; exact OpR_alloc' hs) rfl rfl ?_)); rintro _ _ ⟨_, rfl, hb, hs, hE⟩)
      | (apply aj_cond; first | refine J_dec_t rfl (by first | assumption | omega) ?_ | refine J_dec_f rfl (by first | assumption | omega) ?_ | refine J_cond_t rfl (by first | assumption | rfl | exact decide_eq_true (by first | assumption | omega) | exact decide_eq_false (by first | assumption | omega)) ?_ | refine J_cond_f rfl (by first | assumption | rfl | exact decide_eq_true (by first | assumption | omega) | exact decide_eq_false (by first | assumption | omega)) ?_ | (refine J_cond_dec rfl (fun _ => ?_) (fun _ => ?_)) | (refine J_cond rfl (fun _ => ?_) (fun _ => ?_))))
    have hk' : k = (rowsM W R ws).length := by omega
    subst hk'
    refine J_leave Try.func16 rfl (.tmp rfl .nil) ⟨Rg, a', c', cells, rfl, hs.out (.cons_cons _ (.cons_cons _ (.cons _ .slnil)))⟩
/-- The reference's Of. -/
theorem rof_r (w : World) (W : Int) (a : Option Addr) (n c : Nat) (vss : List (List Int)) (h : Sl (tSl (tInt .u64)) All w a n c vss) (hm : vss.flatten.length ≤ 1000000000) (hn : n ≤ 1000000000) :
    Ret Try.prog 17 #[.int .i64 W, .slice a n c] w fun v w' => ∃ a' c', v = .agg #[.int .i64 W, .int .i64 vss.length, .slice a' vss.flatten.length c'] ∧ Fresh w w' [Row a' vss.flatten.length c' 41 1 (u64s vss.flatten)] := by
  refine Ret_of (l := [_, _]) Try.func17 rfl Try.ntmps17 (by simp) ?_
  have hs := St.init w
  have hl := h.len
  subst hl
  repeat' (first
    | ((apply al_none; refine JL_o (by apply as_alloc; exact OpR_alloc' (L := []) hs) rfl rfl ?_; rintro _ _ ⟨b4, rfl, hb4, hs, hE⟩))
    | ((apply al_none; refine JL_o (by apply as_alloc; exact OpR_alloc' (L := [_]) hs) rfl rfl ?_; rintro _ _ ⟨b5, rfl, hb5, hs, hE⟩))
    | (apply JL_nil)
    | ((first | (apply JL_pure)); (first
      | (apply as_move; first | exact OpR_move rfl is_rfl)
      | (apply as_assign; first | exact OpR_assign rfl is_rfl)
      | (apply as_fieldAddr; first | exact OpR_fieldAddr0 rfl rfl is_rfl | exact OpR_fieldAddr rfl rfl is_rfl)
      | (apply as_load; first | exact OpR_load' hs rfl rfl is_rfl | exact OpR_load_agg' hs rfl is_rfl)
      | (apply as_add; first | exact OpR_addn rfl rfl (by omega) (by first | (simp only [Int.reduceAdd]; exact rfl) | exact rfl) is_rfl | exact OpR_ibin rfl rfl rfl is_rfl)
      | (apply as_binOp; first | exact OpR_ibin rfl rfl rfl is_rfl | exact OpR_beq rfl rfl is_rfl | exact OpR_bne rfl rfl is_rfl | exact OpR_eqNil rfl rfl is_rfl | exact OpR_neNil rfl rfl is_rfl)
      | (apply as_b_len; first | exact OpR_len rfl is_rfl | exact OpR_len_str rfl is_rfl | exact OpR_len_arr rfl is_rfl)
      | (apply as_indexAddr; first | exact OpR_indexAddr rfl rfl (by omega) (by omega) is_rfl | exact OpR_indexAddr_arr' rfl rfl (by omega) (by omega) (by first | (simp only [Int.reduceToNat, Nat.reduceMul, Nat.reduceAdd]; exact rfl) | exact rfl) is_rfl)
      | (apply as_build; first | exact OpR_build rfl (by (simp only [bld, placesOf, splice, Value.cells, List.take_succ_cons, List.take_zero, List.drop_succ_cons, List.drop_zero, List.cons_append, List.nil_append, List.length_cons, List.length_nil, List.getElem?_cons_zero, List.getElem?_cons_succ, Option.map_some, List.append_nil, Nat.reduceAdd, Nat.reduceMul, Nat.zero_add, Nat.reduceLeDiff, and_self, if_true, List.toList_toArray, Nat.le_refl, Nat.zero_mul, Nat.one_mul]; first | done | rfl)) is_rfl | exact OpR_build_arr rfl (by (simp only [bld, placesOf, splice, Value.cells, List.take_succ_cons, List.take_zero, List.drop_succ_cons, List.drop_zero, List.cons_append, List.nil_append, List.length_cons, List.length_nil, List.getElem?_cons_zero, List.getElem?_cons_succ, Option.map_some, List.append_nil, Nat.reduceAdd, Nat.reduceMul, Nat.zero_add, Nat.reduceLeDiff, and_self, if_true, List.toList_toArray, Nat.le_refl, Nat.zero_mul, Nat.one_mul]; first | done | rfl)) is_rfl)); first | (exact rfl; exact rfl) | exact rfl)
    | (apply J_seq)
    | (apply J_region)
    | (apply J_block)
    | (apply J_inBlock)
    | (apply aj_exit; refine J_exit rfl ?_)
    | (apply J_skip)
    | (apply al_none; (first | (refine JL_o (by apply as_box; exact OpR_box' hs rfl) rfl rfl ?_) | (refine JL_o (by apply as_alloc; exact OpR_alloc' hs) rfl rfl ?_)); rintro _ _ ⟨_, rfl, hb, hs, hE⟩)
    | (apply al_unit; refine JL_u (by apply as_store; exact OpR_store' hs rfl rfl rfl) rfl ?_; rintro _ _ ⟨hs, hF⟩)
    | (apply aj_cond; first | refine J_dec_t rfl (by first | assumption | omega) ?_ | refine J_dec_f rfl (by first | assumption | omega) ?_ | refine J_cond_t rfl (by first | assumption | rfl | exact decide_eq_true (by first | assumption | omega) | exact decide_eq_false (by first | assumption | omega)) ?_ | refine J_cond_f rfl (by first | assumption | rfl | exact decide_eq_true (by first | assumption | omega) | exact decide_eq_false (by first | assumption | omega)) ?_ | (refine J_cond_dec rfl (fun _ => ?_) (fun _ => ?_)) | (refine J_cond rfl (fun _ => ?_) (fun _ => ?_))))
  have hs : St w NoF _ [Row none 0 0 41 1 [], _, _] := hs.nilRow 41 1
  refine J_loop (α := Nat × Option Addr × Nat) (fun g w' => St w NoF w' [Row g.2.1 (vss.take g.1).flatten.length g.2.2 41 1 (u64s (vss.take g.1).flatten), Blk b5 (.cells #[.int .i64 W, .int .i64 vss.length, .slice g.2.1 (vss.take g.1).flatten.length g.2.2] 24 (0, 0)), Blk b4 (.cells #[.int .i64 0, .int .i64 0, .slice none 0 0] 24 (0, 0))] ∧ g.1 ≤ vss.length)
    (fun g => [(4, ptr b4), (5, ptr b5), (12, .slice a vss.length c), (13, .int .i64 vss.length), (14, .int .i64 g.1)]) (fun g => vss.length - g.1) (0, none, 0) ⟨by simpa using hs, by dsimp only; omega⟩ ⟨rfl, rfl, rfl, rfl, rfl, trivial⟩ ?_
  rintro ⟨k, a', c'⟩ w' ⟨hs, hk⟩ ih
  dsimp only at hs hk ih ⊢
  by_cases hlt : k < vss.length
  · obtain ⟨b, o, rfl⟩ := h.sl.addr (by omega)
    have hx : vss[k]? = some vss[k] := List.getElem?_eq_getElem (by omega)
    obtain ⟨av, nv, cv, hv, hcell⟩ := VR.el h.sl hx
    have hcell := hcell b o rfl
    have hlv := hv.len
    have e1 := take_flat vss k (by omega)
    have e2 := flat_le vss (k + 1)
    have e3 : (vss.take (k + 1)).flatten.length = (vss.take k).flatten.length + nv := by rw [e1, List.length_append, hlv]
    repeat' (first
      | ((apply al_none; refine JL_o (by apply as_b_append; exact OpR_append hs rfl rfl (hv.st hs).2.2.2.srcInt hv.2.2.2.plain rfl (by omega) (by unfold maxLen; omega)) rfl rfl ?_; rintro _ _ ⟨a2, c2, rfl, hs, hF, hnil⟩))
      | (apply JL_nil)
      | ((first | (apply JL_pure)); (first
      | (apply as_load; exact OpR_load_cell (hs.old_cell hcell) rfl is_rfl)
      | (apply as_move; first | exact OpR_move rfl is_rfl)
      | (apply as_assign; first | exact OpR_assign rfl is_rfl)
      | (apply as_fieldAddr; first | exact OpR_fieldAddr0 rfl rfl is_rfl | exact OpR_fieldAddr rfl rfl is_rfl)
      | (apply as_load; first | exact OpR_load' hs rfl rfl is_rfl | exact OpR_load_agg' hs rfl is_rfl)
      | (apply as_add; first | exact OpR_addn rfl rfl (by omega) (by first | (simp only [Int.reduceAdd]; exact rfl) | exact rfl) is_rfl | exact OpR_ibin rfl rfl rfl is_rfl)
      | (apply as_binOp; first | exact OpR_ibin rfl rfl rfl is_rfl | exact OpR_beq rfl rfl is_rfl | exact OpR_bne rfl rfl is_rfl | exact OpR_eqNil rfl rfl is_rfl | exact OpR_neNil rfl rfl is_rfl)
      | (apply as_b_len; first | exact OpR_len rfl is_rfl | exact OpR_len_str rfl is_rfl | exact OpR_len_arr rfl is_rfl)
      | (apply as_indexAddr; first | exact OpR_indexAddr rfl rfl (by omega) (by omega) is_rfl | exact OpR_indexAddr_arr' rfl rfl (by omega) (by omega) (by first | (simp only [Int.reduceToNat, Nat.reduceMul, Nat.reduceAdd]; exact rfl) | exact rfl) is_rfl)
      | (apply as_build; first | exact OpR_build rfl (by (simp only [bld, placesOf, splice, Value.cells, List.take_succ_cons, List.take_zero, List.drop_succ_cons, List.drop_zero, List.cons_append, List.nil_append, List.length_cons, List.length_nil, List.getElem?_cons_zero, List.getElem?_cons_succ, Option.map_some, List.append_nil, Nat.reduceAdd, Nat.reduceMul, Nat.zero_add, Nat.reduceLeDiff, and_self, if_true, List.toList_toArray, Nat.le_refl, Nat.zero_mul, Nat.one_mul]; first | done | rfl)) is_rfl | exact OpR_build_arr rfl (by (simp only [bld, placesOf, splice, Value.cells, List.take_succ_cons, List.take_zero, List.drop_succ_cons, List.drop_zero, List.cons_append, List.nil_append, List.length_cons, List.length_nil, List.getElem?_cons_zero, List.getElem?_cons_succ, Option.map_some, List.append_nil, Nat.reduceAdd, Nat.reduceMul, Nat.zero_add, Nat.reduceLeDiff, and_self, if_true, List.toList_toArray, Nat.le_refl, Nat.zero_mul, Nat.one_mul]; first | done | rfl)) is_rfl)); first | (exact rfl; exact rfl) | exact rfl)
      | (apply J_seq)
      | (apply J_region)
      | (apply J_block)
      | (apply J_inBlock)
      | (apply aj_exit; refine J_exit rfl ?_)
      | (apply J_skip)
      | (apply al_none; (first | (refine JL_o (by apply as_box; exact OpR_box' hs rfl) rfl rfl ?_) | (refine JL_o (by apply as_alloc; exact OpR_alloc' hs) rfl rfl ?_)); rintro _ _ ⟨_, rfl, hb, hs, hE⟩)
      | (apply al_unit; refine JL_u (by apply as_store; exact OpR_store' hs rfl rfl rfl) rfl ?_; rintro _ _ ⟨hs, hF⟩)
      | (apply aj_cond; first | refine J_dec_t rfl (by first | assumption | omega) ?_ | refine J_dec_f rfl (by first | assumption | omega) ?_ | refine J_cond_t rfl (by first | assumption | rfl | exact decide_eq_true (by first | assumption | omega) | exact decide_eq_false (by first | assumption | omega)) ?_ | refine J_cond_f rfl (by first | assumption | rfl | exact decide_eq_true (by first | assumption | omega) | exact decide_eq_false (by first | assumption | omega)) ?_ | (refine J_cond_dec rfl (fun _ => ?_) (fun _ => ?_)) | (refine J_cond rfl (fun _ => ?_) (fun _ => ?_))))
    refine J.to (ih (k + 1, a2, c2) _ ⟨by dsimp only; rw [e3, e1, u64s, List.map_append]; exact hs, by dsimp only; omega⟩ (by dsimp only; omega)) ⟨rfl, rfl, rfl, rfl, rfl, trivial⟩
  · have e : vss.take k = vss := List.take_of_length_le (by omega)
    rw [e] at hs
    repeat' (first
      | (apply JL_nil)
      | ((first | (apply JL_pure)); (first
      | (apply as_move; first | exact OpR_move rfl is_rfl)
      | (apply as_assign; first | exact OpR_assign rfl is_rfl)
      | (apply as_fieldAddr; first | exact OpR_fieldAddr0 rfl rfl is_rfl | exact OpR_fieldAddr rfl rfl is_rfl)
      | (apply as_load; first | exact OpR_load' hs rfl rfl is_rfl | exact OpR_load_agg' hs rfl is_rfl)
      | (apply as_add; first | exact OpR_addn rfl rfl (by omega) (by first | (simp only [Int.reduceAdd]; exact rfl) | exact rfl) is_rfl | exact OpR_ibin rfl rfl rfl is_rfl)
      | (apply as_binOp; first | exact OpR_ibin rfl rfl rfl is_rfl | exact OpR_beq rfl rfl is_rfl | exact OpR_bne rfl rfl is_rfl | exact OpR_eqNil rfl rfl is_rfl | exact OpR_neNil rfl rfl is_rfl)
      | (apply as_b_len; first | exact OpR_len rfl is_rfl | exact OpR_len_str rfl is_rfl | exact OpR_len_arr rfl is_rfl)
      | (apply as_indexAddr; first | exact OpR_indexAddr rfl rfl (by omega) (by omega) is_rfl | exact OpR_indexAddr_arr' rfl rfl (by omega) (by omega) (by first | (simp only [Int.reduceToNat, Nat.reduceMul, Nat.reduceAdd]; exact rfl) | exact rfl) is_rfl)
      | (apply as_build; first | exact OpR_build rfl (by (simp only [bld, placesOf, splice, Value.cells, List.take_succ_cons, List.take_zero, List.drop_succ_cons, List.drop_zero, List.cons_append, List.nil_append, List.length_cons, List.length_nil, List.getElem?_cons_zero, List.getElem?_cons_succ, Option.map_some, List.append_nil, Nat.reduceAdd, Nat.reduceMul, Nat.zero_add, Nat.reduceLeDiff, and_self, if_true, List.toList_toArray, Nat.le_refl, Nat.zero_mul, Nat.one_mul]; first | done | rfl)) is_rfl | exact OpR_build_arr rfl (by (simp only [bld, placesOf, splice, Value.cells, List.take_succ_cons, List.take_zero, List.drop_succ_cons, List.drop_zero, List.cons_append, List.nil_append, List.length_cons, List.length_nil, List.getElem?_cons_zero, List.getElem?_cons_succ, Option.map_some, List.append_nil, Nat.reduceAdd, Nat.reduceMul, Nat.zero_add, Nat.reduceLeDiff, and_self, if_true, List.toList_toArray, Nat.le_refl, Nat.zero_mul, Nat.one_mul]; first | done | rfl)) is_rfl)); first | (exact rfl; exact rfl) | exact rfl)
      | (apply J_seq)
      | (apply J_region)
      | (apply J_block)
      | (apply J_inBlock)
      | (apply aj_exit; refine J_exit rfl ?_)
      | (apply J_skip)
      | (apply al_none; (first | (refine JL_o (by apply as_box; exact OpR_box' hs rfl) rfl rfl ?_) | (refine JL_o (by apply as_alloc; exact OpR_alloc' hs) rfl rfl ?_)); rintro _ _ ⟨_, rfl, hb, hs, hE⟩)
      | (apply al_unit; refine JL_u (by apply as_store; exact OpR_store' hs rfl rfl rfl) rfl ?_; rintro _ _ ⟨hs, hF⟩)
      | (apply aj_cond; first | refine J_dec_t rfl (by first | assumption | omega) ?_ | refine J_dec_f rfl (by first | assumption | omega) ?_ | refine J_cond_t rfl (by first | assumption | rfl | exact decide_eq_true (by first | assumption | omega) | exact decide_eq_false (by first | assumption | omega)) ?_ | refine J_cond_f rfl (by first | assumption | rfl | exact decide_eq_true (by first | assumption | omega) | exact decide_eq_false (by first | assumption | omega)) ?_ | (refine J_cond_dec rfl (fun _ => ?_) (fun _ => ?_)) | (refine J_cond rfl (fun _ => ?_) (fun _ => ?_))))
    refine J_leave Try.func17 rfl (.agg' hs rfl rfl .nil) ⟨_, _, rfl, hs.out (.cons_cons _ (.cons _ (.cons _ .slnil)))⟩
theorem withA (vss : List (List Int)) (r : Nat) (v : List Int) (hr : r < vss.length) : (vss.set r v).length = vss.length := by simp
/-- The reference's With. -/
theorem rwith_r (w : World) (r : Int) (a av : Option Addr) (n c nv cv : Nat) (vss : List (List Int)) (vs : List Int) (h : Sl (tSl (tInt .u64)) All w a n c vss) (hv : WR w av nv cv vs) (hr : 0 ≤ r ∧ r < n) (hn : n ≤ 1000000000) :
    Ret Try.prog 23 #[.slice a n c, .int .i64 r, .slice av nv cv] w fun v w' => ∃ a' c', v = .slice a' n c' ∧ Ext w w' ∧ Sl (tSl (tInt .u64)) All w' a' n c' (vss.set r.toNat vs) := by
  refine Ret_of (l := [_, _, _]) Try.func23 rfl Try.ntmps23 (by simp) ?_
  have hs := St.init w
  have hl := h.len
  obtain ⟨cells, hsrc, hdat⟩ := h.cellsOf
  have hcl := hsrc.1
  obtain ⟨i, rfl⟩ : ∃ i : Nat, r = i := ⟨r.toNat, by omega⟩
  repeat' (first
    | ((apply al_none; refine JL_o (by apply as_buildSlice; exact OpR_buildSlice hs rfl (by omega) rfl) rfl rfl ?_; rintro _ _ ⟨b, rfl, hb, hs, hE⟩; have hs := hs.toRow 0 0 0 1 (xs := []) (Nat.le_refl _) (by unfold maxLen; omega) (by simp) rfl))
    | ((apply al_none; refine JL_o (by apply as_b_append; exact OpR_append hs rfl rfl (Src.st hsrc hs) h.sl.plain rfl (by omega) (by unfold maxLen; omega)) rfl rfl ?_; rintro _ _ ⟨a2, c2, rfl, hs, hF, hnil⟩; rw [Nat.zero_add] at hs ⊢; rw [List.nil_append] at hs; obtain ⟨b2, o2, rfl⟩ := (hs.row a2 n c2).some (by omega)))
    | ((apply al_unit; refine JL_u (by apply as_store; exact OpR_storeRow (b := b2) (o := o2) (i := i) (n := n) (c := c2) hs rfl rfl rfl rfl (by omega)) rfl ?_; rintro _ _ ⟨hs, hF⟩))
    | (apply JL_nil)
    | ((first | (apply JL_pure)); (first
      | (apply as_move; first | exact OpR_move rfl is_rfl)
      | (apply as_assign; first | exact OpR_assign rfl is_rfl)
      | (apply as_indexAddr; first | exact OpR_indexAddr rfl rfl (by omega) (by omega) is_rfl | exact OpR_indexAddr_arr' rfl rfl (by omega) (by omega) (by first | (simp only [Int.reduceToNat, Nat.reduceMul, Nat.reduceAdd]; exact rfl) | exact rfl) is_rfl)); first | (exact rfl; exact rfl) | exact rfl)
    | (apply J_seq)
    | (apply J_region)
    | (apply al_unit; refine JL_u (by apply as_store; exact OpR_store' hs rfl rfl rfl) rfl ?_; rintro _ _ ⟨hs, hF⟩)
    | (apply aj_cond; first | refine J_dec_t rfl (by first | assumption | omega) ?_ | refine J_dec_f rfl (by first | assumption | omega) ?_ | refine J_cond_t rfl (by first | assumption | rfl | exact decide_eq_true (by first | assumption | omega) | exact decide_eq_false (by first | assumption | omega)) ?_ | refine J_cond_f rfl (by first | assumption | rfl | exact decide_eq_true (by first | assumption | omega) | exact decide_eq_false (by first | assumption | omega)) ?_ | (refine J_cond_dec rfl (fun _ => ?_) (fun _ => ?_)) | (refine J_cond rfl (fun _ => ?_) (fun _ => ?_))))
  have hd2 : DatsV All (tSl (tInt .u64)) _ cells vss := hdat.loc (fun k _ hk => hs.frm.old k hk id)
  have hd3 := hd2.set i (c := .slice av nv cv) (x := vs) ((⟨hv.1, hv.2.1, hv.2.2.1, (hv.st hs).2.2.2⟩ : Sl (tInt .u64) All _ av nv cv vs).rep)
  refine J_leave Try.func23 rfl (.tmp rfl .nil) ⟨_, _, rfl, hs.frm.ext, ?_⟩
  exact (RowV.slD (hs.row _ n c2) hd3 rfl).weak (fun _ _ => trivial)
/-- The reference's Without. -/
def withoutM (vss : List (List Int)) (r : Nat) : List (List Int) := (vss.set r (vss.getD (vss.length - 1) [])).take (vss.length - 1)
theorem rwithout_r (w : World) (r : Int) (a : Option Addr) (n c : Nat) (vss : List (List Int)) (h : Sl (tSl (tInt .u64)) All w a n c vss) (hr : 0 ≤ r ∧ r < n) (hn : n ≤ 1000000000) :
    Ret Try.prog 18 #[.slice a n c, .int .i64 r] w fun v w' => ∃ a' c', v = .slice a' (n - 1) c' ∧ Ext w w' ∧ Sl (tSl (tInt .u64)) All w' a' (n - 1) c' (withoutM vss r.toNat) := by
  refine Ret_of (l := [_, _]) Try.func18 rfl Try.ntmps18 (by simp) ?_
  have hs := St.init w
  have hl := h.len
  obtain ⟨cells, hsrc, hdat⟩ := h.cellsOf
  have hcl := hsrc.1
  obtain ⟨i, rfl⟩ : ∃ i : Nat, r = i := ⟨r.toNat, by omega⟩
  have hcx : cells[n - 1]? = some cells[n - 1] := List.getElem?_eq_getElem (by omega)
  have hvx : vss[n - 1]? = some vss[n - 1] := List.getElem?_eq_getElem (by omega)
  have hrep := hdat.2 (n - 1) _ _ hcx hvx
  obtain ⟨av, nv, cv, hsing, _⟩ := id hrep
  have hce : cells[n - 1] = .slice av nv cv := by injection hsing
  rw [hce] at hcx
  have e1 : (n : Int) - 1 = ((n - 1 : Nat) : Int) := by omega
  repeat' (first
    | ((apply al_none; refine JL_o (by apply as_buildSlice; exact OpR_buildSlice hs rfl (by omega) rfl) rfl rfl ?_; rintro _ _ ⟨b, rfl, hb, hs, hE⟩; have hs := hs.toRow 0 0 0 1 (xs := []) (Nat.le_refl _) (by unfold maxLen; omega) (by simp) rfl))
    | ((apply al_none; refine JL_o (by apply as_b_append; exact OpR_append hs rfl rfl (Src.st hsrc hs) h.sl.plain rfl (by omega) (by unfold maxLen; omega)) rfl rfl ?_; rintro _ _ ⟨a2, c2, rfl, hs, hF, hnil⟩; rw [Nat.zero_add] at hs ⊢; rw [List.nil_append] at hs; obtain ⟨b2, o2, rfl⟩ := (hs.row a2 n c2).some (by omega)))
    | ((apply al_none; refine JL_pure (v := .int .i64 ((n - 1 : Nat) : Int)) (by apply as_sub; exact OpR_sub rfl rfl (by omega) (by rw [e1]; exact is_rfl)) rfl rfl ?_))
    | ((apply al_unit; refine JL_u (by apply as_store; exact OpR_storeRow (b := b2) (o := o2) (i := i) (n := n) (c := c2) hs rfl rfl rfl rfl (by omega)) rfl ?_; rintro _ _ ⟨hs, hF⟩))
    | ((apply al_none; refine JL_pure (v := .slice (some ⟨b2, o2, none⟩) (n - 1) c2) (by apply as_slice; exact OpR_slice (kl := .i64) (km := .i64) (a' := some ⟨b2, o2, none⟩) (m := c2) (h := ((n - 1 : Nat) : Int)) rfl (.inl ⟨rfl, rfl⟩) (.inr ⟨_, rfl, rfl⟩) (.inl ⟨rfl, rfl⟩) (by omega) (by omega) (by have := (hs.row (some ⟨b2, o2, none⟩) n c2).cap.1; omega) (by omega) (by split; rfl; exact addr_add0 _) (by rw [Int.sub_zero, Int.sub_zero, Int.toNat_natCast, Int.toNat_natCast]; exact is_rfl)) rfl rfl ?_))
    | (apply JL_nil)
    | ((first | (apply JL_pure)); (first
      | (apply as_load; exact OpR_loadRow (b := b2) (o := o2) (i := n - 1) (n := n) (c := c2) hs rfl hcx is_rfl)
      | (apply as_move; first | exact OpR_move rfl is_rfl)
      | (apply as_assign; first | exact OpR_assign rfl is_rfl)
      | (apply as_load; first | exact OpR_load' hs rfl rfl is_rfl | exact OpR_load_agg' hs rfl is_rfl)
      | (apply as_sub; first | exact OpR_sub rfl rfl (by omega) is_rfl | exact OpR_ibin rfl rfl rfl is_rfl)
      | (apply as_binOp; first | exact OpR_ibin rfl rfl rfl is_rfl | exact OpR_beq rfl rfl is_rfl | exact OpR_bne rfl rfl is_rfl | exact OpR_eqNil rfl rfl is_rfl | exact OpR_neNil rfl rfl is_rfl)
      | (apply as_b_len; first | exact OpR_len rfl is_rfl | exact OpR_len_str rfl is_rfl | exact OpR_len_arr rfl is_rfl)
      | (apply as_indexAddr; first | exact OpR_indexAddr rfl rfl (by omega) (by omega) is_rfl | exact OpR_indexAddr_arr' rfl rfl (by omega) (by omega) (by first | (simp only [Int.reduceToNat, Nat.reduceMul, Nat.reduceAdd]; exact rfl) | exact rfl) is_rfl)); first | (exact rfl; exact rfl) | exact rfl)
    | (apply J_seq)
    | (apply J_region)
    | (apply al_unit; refine JL_u (by apply as_store; exact OpR_store' hs rfl rfl rfl) rfl ?_; rintro _ _ ⟨hs, hF⟩)
    | (apply aj_cond; first | refine J_dec_t rfl (by first | assumption | omega) ?_ | refine J_dec_f rfl (by first | assumption | omega) ?_ | refine J_cond_t rfl (by first | assumption | rfl | exact decide_eq_true (by first | assumption | omega) | exact decide_eq_false (by first | assumption | omega)) ?_ | refine J_cond_f rfl (by first | assumption | rfl | exact decide_eq_true (by first | assumption | omega) | exact decide_eq_false (by first | assumption | omega)) ?_ | (refine J_cond_dec rfl (fun _ => ?_) (fun _ => ?_)) | (refine J_cond rfl (fun _ => ?_) (fun _ => ?_))))
  have hd2 : DatsV All (tSl (tInt .u64)) _ cells vss := hdat.loc (fun k _ hk => hs.frm.old k hk id)
  have hrep2 := hd2.2 (n - 1) _ _ hcx hvx
  have hd3 := (hd2.set i hrep2).take (n - 1)
  have hrow := (hs.cutRow (n - 1) c2 (by omega) (by have := (hs.row (some ⟨b2, o2, none⟩) n c2).cap.1; omega) (Nat.le_refl _)).row (some ⟨b2, o2, none⟩) (n - 1) c2
  refine J_leave Try.func18 rfl (.tmp rfl .nil) ⟨_, _, rfl, hs.frm.ext, ?_⟩
  rw [Nat.mul_one] at hrow
  have := (RowV.slD hrow hd3 rfl).weak (R' := All) (fun _ _ => trivial)
  have e : withoutM vss (i : Int).toNat = (vss.set i vss[n - 1]).take (n - 1) := by
    simp [withoutM, hl, hvx]
  rw [e]
  exact this
end Go.Eng
