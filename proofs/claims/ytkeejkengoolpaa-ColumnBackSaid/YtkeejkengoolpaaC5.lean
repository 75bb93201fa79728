/- Column: what the laws use: clones, and what the references do. -/
import Derived.Test.YtkeejkengoolpaaC4
namespace Go.Eng
open Go.Proofs
attribute [local irreducible] J JL JD OpR OpG Ret RetV Is Blk Row
set_option maxRecDepth 100000
set_option maxHeartbeats 400000
set_option linter.unusedSimpArgs false
set_option linter.unusedVariables false
theorem clone33_r (w : World) (a : Option Addr) (n c : Nat) (xs : List Int) (h : SlR (tInt .u64) All w a n xs) (hm : n ≤ 1000000000) :
    Ret Try.prog 33 #[.slice a n c] w fun v w' => ∃ a' c', v = .slice a' n c' ∧ Fresh w w' [Row a' n c' 41 1 (u64s xs)] := by
  refine Ret_of (l := [_]) Try.func33 rfl Try.ntmps33 (by simp) ?_
  have hs := St.init w
  repeat' (first
    | ((apply al_none; refine JL_o (by apply as_buildSlice; exact OpR_buildSlice hs rfl (by omega) rfl) rfl rfl ?_; rintro _ _ ⟨b, rfl, hb, hs, hE⟩; have hs := hs.toRow 0 0 0 1 (xs := []) (Nat.le_refl _) (by unfold maxLen; omega) (by simp) rfl))
    | ((apply al_none; refine JL_o (by apply as_b_append; exact OpR_append hs rfl rfl (h.st hs).srcInt h.plain rfl (by omega) (by unfold maxLen; omega)) rfl rfl ?_; rintro _ _ ⟨a2, c2, rfl, hs, hF, hnil⟩))
    | (apply JL_nil)
    | ((first | (apply JL_pure)); (first
      | (apply as_move; first | exact OpR_move rfl is_rfl)
      | (apply as_assign; first | exact OpR_assign rfl is_rfl)
      | (apply as_binOp; first | exact OpR_ibin rfl rfl rfl is_rfl | exact OpR_beq rfl rfl is_rfl | exact OpR_bne rfl rfl is_rfl | exact OpR_eqNil rfl rfl is_rfl | exact OpR_neNil rfl rfl is_rfl)); first | (exact rfl; exact rfl) | exact rfl)
    | (apply J_seq)
    | (apply J_region)
    | (apply J_skip)
    | (apply aj_cond; first | refine J_dec_t rfl (by first | assumption | omega) ?_ | refine J_dec_f rfl (by first | assumption | omega) ?_ | refine J_cond_t rfl (by first | assumption | rfl | exact decide_eq_true (by first | assumption | omega) | exact decide_eq_false (by first | assumption | omega)) ?_ | refine J_cond_f rfl (by first | assumption | rfl | exact decide_eq_true (by first | assumption | omega) | exact decide_eq_false (by first | assumption | omega)) ?_ | (refine J_cond_dec rfl (fun _ => ?_) (fun _ => ?_)) | (refine J_cond rfl (fun _ => ?_) (fun _ => ?_))))
  · have ha : a = none := by cases a; rfl; simp at *
    have hn := h.nil ha
    subst hn
    have hx : xs = [] := List.eq_nil_of_length_eq_zero h.len
    subst hx
    refine J_leave Try.func33 rfl (.tmp rfl .nil) ⟨none, 0, rfl, (hs.nilRow 41 1).out (List.Sublist.refl _)⟩
  · rw [Nat.zero_add, List.nil_append] at hs
    refine J_leave Try.func33 rfl (.tmp rfl .nil) ⟨a2, c2, by rw [Nat.zero_add]; rfl, hs.out (List.Sublist.refl _)⟩
theorem clone34_r (w : World) (a : Option Addr) (n c : Nat) (xs : List Int) (h : SlR (tInt .u64) All w a n xs) (hm : n ≤ 1000000000) :
    Ret Try.prog 34 #[.slice a n c] w fun v w' => ∃ a' c', v = .slice a' n c' ∧ Fresh w w' [Row a' n c' 41 1 (u64s xs)] := by
  refine Ret_of (l := [_]) Try.func34 rfl Try.ntmps34 (by simp) ?_
  have hs := St.init w
  repeat' (first
    | ((apply al_none; refine JL_o (by apply as_buildSlice; exact OpR_buildSlice hs rfl (by omega) rfl) rfl rfl ?_; rintro _ _ ⟨b, rfl, hb, hs, hE⟩; have hs := hs.toRow 0 0 0 1 (xs := []) (Nat.le_refl _) (by unfold maxLen; omega) (by simp) rfl))
    | ((apply al_none; refine JL_o (by apply as_b_append; exact OpR_append hs rfl rfl (h.st hs).srcInt h.plain rfl (by omega) (by unfold maxLen; omega)) rfl rfl ?_; rintro _ _ ⟨a2, c2, rfl, hs, hF, hnil⟩))
    | (apply JL_nil)
    | ((first | (apply JL_pure)); (first
      | (apply as_move; first | exact OpR_move rfl is_rfl)
      | (apply as_assign; first | exact OpR_assign rfl is_rfl)
      | (apply as_binOp; first | exact OpR_ibin rfl rfl rfl is_rfl | exact OpR_beq rfl rfl is_rfl | exact OpR_bne rfl rfl is_rfl | exact OpR_eqNil rfl rfl is_rfl | exact OpR_neNil rfl rfl is_rfl)); first | (exact rfl; exact rfl) | exact rfl)
    | (apply J_seq)
    | (apply J_region)
    | (apply J_skip)
    | (apply aj_cond; first | refine J_dec_t rfl (by first | assumption | omega) ?_ | refine J_dec_f rfl (by first | assumption | omega) ?_ | refine J_cond_t rfl (by first | assumption | rfl | exact decide_eq_true (by first | assumption | omega) | exact decide_eq_false (by first | assumption | omega)) ?_ | refine J_cond_f rfl (by first | assumption | rfl | exact decide_eq_true (by first | assumption | omega) | exact decide_eq_false (by first | assumption | omega)) ?_ | (refine J_cond_dec rfl (fun _ => ?_) (fun _ => ?_)) | (refine J_cond rfl (fun _ => ?_) (fun _ => ?_))))
  · have ha : a = none := by cases a; rfl; simp at *
    have hn := h.nil ha
    subst hn
    have hx : xs = [] := List.eq_nil_of_length_eq_zero h.len
    subst hx
    refine J_leave Try.func34 rfl (.tmp rfl .nil) ⟨none, 0, rfl, (hs.nilRow 41 1).out (List.Sublist.refl _)⟩
  · rw [Nat.zero_add, List.nil_append] at hs
    refine J_leave Try.func34 rfl (.tmp rfl .nil) ⟨a2, c2, by rw [Nat.zero_add]; rfl, hs.out (List.Sublist.refl _)⟩
theorem SlR.takeSl {α : Type} {d : Ty α} {R : Nat → Prop} {w : World} {a : Option Addr} {n : Nat} {xs : List α} (s : SlR d R w a n xs) (m : Nat) (hm : m ≤ n) : SlR d R w a m (xs.take m) :=
  ⟨by rw [List.length_take, s.len]; omega, fun h => by have := s.nil h; omega, fun h => s.plain (by omega), fun b o ha hn => s.reg b o ha (by omega), fun i x hx => s.el i x (by
    rw [List.getElem?_take] at hx
    split at hx
    · exact hx
    · cases hx)⟩
/-- own. -/
theorem own_r (w : World) (W R : Int) (a : Option Addr) (n c : Nat) (ws : List Int) (h : WR w a n c ws) :
    Ret Try.prog 10 #[.agg #[.int .i64 W, .int .i64 R, .slice a n c]] w fun v w' => ∃ a' c', v = .agg #[.int .i64 W, .int .i64 R, .slice a' (ws.take 60).length c'] ∧ Fresh w w' [Row a' (ws.take 60).length c' 41 1 (u64s (ws.take 60))] := by
  refine Ret_of (l := [_]) Try.func10 rfl Try.ntmps10 (by simp) ?_
  have hs := St.init w
  have hl := h.len
  have hc := h.1
  have hcm := h.2.1
  unfold maxLen at hcm
  subst hl
  have hm : (min (ws.length : Int) 60) = ((ws.take 60).length : Nat) := by rw [List.length_take]; omega
  have hle : (ws.take 60).length ≤ ws.length := by rw [List.length_take]; omega
  have hle60 : (ws.take 60).length ≤ 60 := by rw [List.length_take]; omega
  have hsl := h.2.2.2.takeSl (ws.take 60).length hle
  have e : ws.take (ws.take 60).length = ws.take 60 := by
    rw [List.length_take]
    by_cases h60 : 60 ≤ ws.length
    · rw [Nat.min_eq_left h60]
    · rw [Nat.min_eq_right (by omega), List.take_of_length_le (Nat.le_refl _), List.take_of_length_le (by omega)]
  rw [e] at hsl
  repeat' (first
    | ((apply al_none; refine JL_o (OpR_callF en33 rfl (clone33_r _ a (ws.take 60).length c _ (hsl.st hs) (by omega))) rfl rfl ?_; rintro _ _ ⟨a2, c2, rfl, hf⟩; have hs : St _ _ _ [_, _, _] := hs.fresh hf))
    | ((apply al_none; refine JL_pure (v := .int .i64 ((ws.take 60).length : Nat)) (by apply as_b_min; exact OpR_min rfl rfl (by rw [hm]; exact is_rfl)) rfl rfl ?_))
    | ((apply al_none; refine JL_pure (v := .slice a (ws.take 60).length c) (by apply as_slice; exact OpR_slice (kl := .i64) (km := .i64) (a' := a) (m := c) (h := ((ws.take 60).length : Nat)) rfl (.inl ⟨rfl, rfl⟩) (.inr ⟨_, rfl, rfl⟩) (.inl ⟨rfl, rfl⟩) (by omega) (by omega) (by omega) (by omega) (by split; rfl; exact addr_add0 a) (by rw [Int.sub_zero, Int.sub_zero, Int.toNat_natCast, Int.toNat_natCast]; exact is_rfl)) rfl rfl ?_))
    | (apply JL_nil)
    | ((first | (apply JL_pure)); (first
      | (apply as_fieldAddr; first | exact OpR_fieldAddr0 rfl rfl is_rfl | exact OpR_fieldAddr rfl rfl is_rfl)
      | (apply as_load; first | exact OpR_load' hs rfl rfl is_rfl | exact OpR_load_agg' hs rfl is_rfl)
      | (apply as_b_len; first | exact OpR_len rfl is_rfl | exact OpR_len_str rfl is_rfl | exact OpR_len_arr rfl is_rfl)
      | (apply as_b_min; first | exact OpR_min rfl rfl is_rfl)); first | (exact rfl; exact rfl) | exact rfl)
    | (apply J_seq)
    | (apply J_region)
    | (apply al_none; (first | (refine JL_o (by apply as_box; exact OpR_box' hs rfl) rfl rfl ?_) | (refine JL_o (by apply as_alloc; exact OpR_alloc' hs) rfl rfl ?_)); rintro _ _ ⟨_, rfl, hb, hs, hE⟩)
    | (apply al_unit; refine JL_u (by apply as_store; exact OpR_store' hs rfl rfl rfl) rfl ?_; rintro _ _ ⟨hs, hF⟩)
    | (apply aj_cond; first | refine J_dec_t rfl (by first | assumption | omega) ?_ | refine J_dec_f rfl (by first | assumption | omega) ?_ | refine J_cond_t rfl (by first | assumption | rfl | exact decide_eq_true (by first | assumption | omega) | exact decide_eq_false (by first | assumption | omega)) ?_ | refine J_cond_f rfl (by first | assumption | rfl | exact decide_eq_true (by first | assumption | omega) | exact decide_eq_false (by first | assumption | omega)) ?_ | (refine J_cond_dec rfl (fun _ => ?_) (fun _ => ?_)) | (refine J_cond rfl (fun _ => ?_) (fun _ => ?_))))
  refine J_leave Try.func10 rfl (.agg' hs rfl rfl .nil) ⟨a2, c2, rfl, hs.out (.cons_cons _ (.cons _ (.cons _ .slnil)))⟩
theorem take_len {α : Type} (xs : List α) (m : Nat) : xs.take (xs.take m).length = xs.take m := by
  rw [List.length_take]
  by_cases h : m ≤ xs.length
  · rw [Nat.min_eq_left h]
  · rw [Nat.min_eq_right (by omega), List.take_of_length_le (Nat.le_refl _), List.take_of_length_le (by omega)]
def valsOf (vss : List (List Int)) : List (List Int) := (vss.take 8).map (·.take 6)
/-- values. -/
theorem values_r (w : World) (a : Option Addr) (n c : Nat) (vss : List (List Int)) (h : Sl (tSl (tInt .u64)) All w a n c vss) :
    Ret Try.prog 11 #[.slice a n c] w fun v w' => ∃ R a' c' cells, v = .slice a' (valsOf vss).length c' ∧ Fresh w w' [Row a' (valsOf vss).length c' 31 1 cells, Dats R (tSl (tInt .u64)) cells (valsOf vss)] := by
  refine Ret_of (l := [_]) Try.func11 rfl Try.ntmps11 (by simp) ?_
  have hs := St.init w
  have hl := h.len
  have hc := h.le
  have hcm := h.cap
  unfold maxLen at hcm
  subst hl
  obtain ⟨m, hmd⟩ : ∃ m, m = (vss.take 8).length := ⟨_, rfl⟩
  have hm : (min (vss.length : Int) 8) = (m : Nat) := by rw [hmd, List.length_take]; omega
  have hle : m ≤ vss.length := by rw [hmd, List.length_take]; omega
  have hle8 : m ≤ 8 := by rw [hmd, List.length_take]; omega
  repeat' (first
    | ((apply al_none; refine JL_pure (v := .int .i64 (m : Nat)) (by apply as_b_min; exact OpR_min rfl rfl (by rw [hm]; exact is_rfl)) rfl rfl ?_))
    | ((apply al_none; refine JL_pure (v := .slice a m c) (by apply as_slice; exact OpR_slice (kl := .i64) (km := .i64) (a' := a) (m := c) (h := (m : Nat)) rfl (.inl ⟨rfl, rfl⟩) (.inr ⟨_, rfl, rfl⟩) (.inl ⟨rfl, rfl⟩) (by omega) (by omega) (by omega) (by omega) (by split; rfl; exact addr_add0 a) (by rw [Int.sub_zero, Int.sub_zero, Int.toNat_natCast, Int.toNat_natCast]; exact is_rfl)) rfl rfl ?_))
    | (apply JL_nil)
    | ((first | (apply JL_pure)); (first
      | (apply as_move; first | exact OpR_move rfl is_rfl)
      | (apply as_assign; first | exact OpR_assign rfl is_rfl)
      | (apply as_load; first | exact OpR_load' hs rfl rfl is_rfl | exact OpR_load_agg' hs rfl is_rfl)
      | (apply as_add; first | exact OpR_addn rfl rfl (by omega) (by first | (simp only [Int.reduceAdd]; exact rfl) | exact rfl) is_rfl | exact OpR_ibin rfl rfl rfl is_rfl)
      | (apply as_binOp; first | exact OpR_ibin rfl rfl rfl is_rfl | exact OpR_beq rfl rfl is_rfl | exact OpR_bne rfl rfl is_rfl | exact OpR_eqNil rfl rfl is_rfl | exact OpR_neNil rfl rfl is_rfl)
      | (apply as_b_len; first | exact OpR_len rfl is_rfl | exact OpR_len_str rfl is_rfl | exact OpR_len_arr rfl is_rfl)
      | (apply as_b_min; first | exact OpR_min rfl rfl is_rfl)
      | (apply as_indexAddr; first | exact OpR_indexAddr rfl rfl (by omega) (by omega) is_rfl | exact OpR_indexAddr_arr' rfl rfl (by omega) (by omega) (by first | (simp only [Int.reduceToNat, Nat.reduceMul, Nat.reduceAdd]; exact rfl) | exact rfl) is_rfl)); first | (exact rfl; exact rfl) | exact rfl)
    | (apply J_seq)
    | (apply J_region)
    | (apply J_block)
    | (apply J_inBlock)
    | (apply aj_exit; refine J_exit rfl ?_)
    | (apply J_skip)
    | (apply aj_cond; first | refine J_dec_t rfl (by first | assumption | omega) ?_ | refine J_dec_f rfl (by first | assumption | omega) ?_ | refine J_cond_t rfl (by first | assumption | rfl | exact decide_eq_true (by first | assumption | omega) | exact decide_eq_false (by first | assumption | omega)) ?_ | refine J_cond_f rfl (by first | assumption | rfl | exact decide_eq_true (by first | assumption | omega) | exact decide_eq_false (by first | assumption | omega)) ?_ | (refine J_cond_dec rfl (fun _ => ?_) (fun _ => ?_)) | (refine J_cond rfl (fun _ => ?_) (fun _ => ?_))))
  have hs : St w NoF _ [Row none 0 0 31 1 [], Dats NoF (tSl (tInt .u64)) [] []] := (hs.nilDats (tSl (tInt .u64))).nilRow 31 1
  refine J_loop (α := Nat × Option Addr × Nat × List Value × (Nat → Prop)) (fun g w' => St w NoF w' [Row g.2.1 g.1 g.2.2.1 31 1 g.2.2.2.1, Dats g.2.2.2.2 (tSl (tInt .u64)) g.2.2.2.1 ((vss.take g.1).map (·.take 6))] ∧ g.1 ≤ m)
    (fun g => [(0, .slice a vss.length c), (3, .slice g.2.1 g.1 g.2.2.1), (10, .slice a m c), (11, .int .i64 m), (12, .int .i64 g.1)]) (fun g => m - g.1) (0, none, 0, [], NoF) ⟨hs, by omega⟩ ⟨rfl, rfl, rfl, rfl, rfl, trivial⟩ ?_
  rintro ⟨k, a', c', cells, R⟩ w' ⟨hs, hk⟩ ih
  dsimp only at hs hk ih ⊢
  by_cases hlt : k < m
  · obtain ⟨b, o, rfl⟩ := h.sl.addr (by omega)
    have hx : vss[k]? = some vss[k] := List.getElem?_eq_getElem (by omega)
    obtain ⟨av, nv, cv, hv, hcell⟩ := VR.el h.sl hx
    have hcell := hcell b o rfl
    have hlv := hv.len
    have hvc := hv.1
    have hvcm := hv.2.1
    unfold maxLen at hvcm
    obtain ⟨m2, hm2d⟩ : ∃ m, m = (vss[k].take 6).length := ⟨_, rfl⟩
    have hm2 : (min (nv : Int) 6) = (m2 : Nat) := by rw [hm2d, List.length_take]; omega
    have hle2 : m2 ≤ nv := by rw [hm2d, List.length_take]; omega
    have hle6 : m2 ≤ 6 := by rw [hm2d, List.length_take]; omega
    have hsl := hv.2.2.2.takeSl m2 hle2
    rw [hm2d, take_len, ← hm2d] at hsl
    have hu : U64 (vss[k].take 6) := fun x hx => hv.u64 x (List.mem_of_mem_take hx)
    have htk : (vss.take (k + 1)).map (·.take 6) = (vss.take k).map (·.take 6) ++ [vss[k].take 6] := by rw [List.take_succ_eq_append_getElem (by omega), List.map_append]; rfl
    repeat' (first
      | ((apply al_none; refine JL_pure (v := .int .i64 (m2 : Nat)) (by apply as_b_min; exact OpR_min rfl rfl (by rw [hm2]; exact is_rfl)) rfl rfl ?_))
      | ((apply al_none; refine JL_pure (v := .slice av m2 cv) (by apply as_slice; exact OpR_slice (kl := .i64) (km := .i64) (a' := av) (m := cv) (h := (m2 : Nat)) rfl (.inl ⟨rfl, rfl⟩) (.inr ⟨_, rfl, rfl⟩) (.inl ⟨rfl, rfl⟩) (by omega) (by omega) (by omega) (by omega) (by split; rfl; exact addr_add0 av) (by rw [Int.sub_zero, Int.sub_zero, Int.toNat_natCast, Int.toNat_natCast]; exact is_rfl)) rfl rfl ?_))
      | ((apply al_none; refine JL_o (OpR_callF en34 rfl (clone34_r _ av m2 cv _ (hsl.st hs) (by omega))) rfl rfl ?_; rintro _ _ ⟨a2, c2, rfl, hf⟩; have hs : St _ _ _ [_, _, _] := hs.fresh hf; have hs := St.rowFrz (k := .u64) hs hu))
      | ((apply al_none; refine JL_o (by apply as_buildSlice; exact OpR_buildSlice hs rfl (by omega) rfl) rfl rfl ?_; rintro _ _ ⟨b5, rfl, hb5, hs, hE⟩))
      | ((apply al_none; refine JL_o (by apply as_b_append; exact OpR_append (xs := cells) hs rfl rfl (src_blk1 hs.blk rfl) plain_blk rfl (by omega) (by unfold maxLen; omega)) rfl rfl ?_; rintro _ _ ⟨a3, c3, rfl, hs, hF, hnil⟩))
      | (apply JL_nil)
      | ((first | (apply JL_pure)); (first
      | (apply as_load; exact OpR_load_cell (hs.old_cell hcell) rfl is_rfl)
      | (apply as_move; first | exact OpR_move rfl is_rfl)
      | (apply as_assign; first | exact OpR_assign rfl is_rfl)
      | (apply as_load; first | exact OpR_load' hs rfl rfl is_rfl | exact OpR_load_agg' hs rfl is_rfl)
      | (apply as_add; first | exact OpR_addn rfl rfl (by omega) (by first | (simp only [Int.reduceAdd]; exact rfl) | exact rfl) is_rfl | exact OpR_ibin rfl rfl rfl is_rfl)
      | (apply as_binOp; first | exact OpR_ibin rfl rfl rfl is_rfl | exact OpR_beq rfl rfl is_rfl | exact OpR_bne rfl rfl is_rfl | exact OpR_eqNil rfl rfl is_rfl | exact OpR_neNil rfl rfl is_rfl)
      | (apply as_b_len; first | exact OpR_len rfl is_rfl | exact OpR_len_str rfl is_rfl | exact OpR_len_arr rfl is_rfl)
      | (apply as_b_min; first | exact OpR_min rfl rfl is_rfl)
      | (apply as_indexAddr; first | exact OpR_indexAddr rfl rfl (by omega) (by omega) is_rfl | exact OpR_indexAddr_arr' rfl rfl (by omega) (by omega) (by first | (simp only [Int.reduceToNat, Nat.reduceMul, Nat.reduceAdd]; exact rfl) | exact rfl) is_rfl)); first | (exact rfl; exact rfl) | exact rfl)
      | (apply J_seq)
      | (apply J_region)
      | (apply J_block)
      | (apply J_inBlock)
      | (apply aj_exit; refine J_exit rfl ?_)
      | (apply J_skip)
      | (apply aj_cond; first | refine J_dec_t rfl (by first | assumption | omega) ?_ | refine J_dec_f rfl (by first | assumption | omega) ?_ | refine J_cond_t rfl (by first | assumption | rfl | exact decide_eq_true (by first | assumption | omega) | exact decide_eq_false (by first | assumption | omega)) ?_ | refine J_cond_f rfl (by first | assumption | rfl | exact decide_eq_true (by first | assumption | omega) | exact decide_eq_false (by first | assumption | omega)) ?_ | (refine J_cond_dec rfl (fun _ => ?_) (fun _ => ?_)) | (refine J_cond rfl (fun _ => ?_) (fun _ => ?_))))
    have hs : St w NoF _ [Frz _ _ a2 m2 c2 _, Row a3 (k + 1) c3 31 1 _, Dats R _ cells _] := hs.sub (.cons _ (List.Sublist.refl _))
    have hs : St w NoF _ [Frz _ _ a2 m2 c2 _, Dats R _ cells _, Row a3 (k + 1) c3 31 1 _] := hs.perm (.cons _ (.swap _ _ _))
    have hs : St w NoF _ [Row a3 (k + 1) c3 31 1 _, Dats _ _ _ _] := hs.pushFrz.perm (.swap _ _ _)
    refine J.to (ih (k + 1, a3, c3, cells ++ [.slice a2 m2 c2], _) _ ⟨by dsimp only; rw [htk]; exact hs, by omega⟩ (by dsimp only; omega)) ⟨rfl, rfl, rfl, rfl, rfl, trivial⟩
  · have e : vss.take k = vss.take 8 := by rw [show k = (vss.take 8).length by omega, take_len]
    rw [e] at hs
    have hkl : k = (valsOf vss).length := by simp [valsOf]; simp at hmd; omega
    repeat' (first
      | (apply JL_nil)
      | ((first | (apply JL_pure)); (first
      | (apply as_move; first | exact OpR_move rfl is_rfl)
      | (apply as_assign; first | exact OpR_assign rfl is_rfl)
      | (apply as_load; first | exact OpR_load' hs rfl rfl is_rfl | exact OpR_load_agg' hs rfl is_rfl)
      | (apply as_add; first | exact OpR_addn rfl rfl (by omega) (by first | (simp only [Int.reduceAdd]; exact rfl) | exact rfl) is_rfl | exact OpR_ibin rfl rfl rfl is_rfl)
      | (apply as_binOp; first | exact OpR_ibin rfl rfl rfl is_rfl | exact OpR_beq rfl rfl is_rfl | exact OpR_bne rfl rfl is_rfl | exact OpR_eqNil rfl rfl is_rfl | exact OpR_neNil rfl rfl is_rfl)
      | (apply as_b_len; first | exact OpR_len rfl is_rfl | exact OpR_len_str rfl is_rfl | exact OpR_len_arr rfl is_rfl)
      | (apply as_b_min; first | exact OpR_min rfl rfl is_rfl)
      | (apply as_indexAddr; first | exact OpR_indexAddr rfl rfl (by omega) (by omega) is_rfl | exact OpR_indexAddr_arr' rfl rfl (by omega) (by omega) (by first | (simp only [Int.reduceToNat, Nat.reduceMul, Nat.reduceAdd]; exact rfl) | exact rfl) is_rfl)); first | (exact rfl; exact rfl) | exact rfl)
      | (apply J_seq)
      | (apply J_region)
      | (apply J_block)
      | (apply J_inBlock)
      | (apply aj_exit; refine J_exit rfl ?_)
      | (apply J_skip)
      | (apply aj_cond; first | refine J_dec_t rfl (by first | assumption | omega) ?_ | refine J_dec_f rfl (by first | assumption | omega) ?_ | refine J_cond_t rfl (by first | assumption | rfl | exact decide_eq_true (by first | assumption | omega) | exact decide_eq_false (by first | assumption | omega)) ?_ | refine J_cond_f rfl (by first | assumption | rfl | exact decide_eq_true (by first | assumption | omega) | exact decide_eq_false (by first | assumption | omega)) ?_ | (refine J_cond_dec rfl (fun _ => ?_) (fun _ => ?_)) | (refine J_cond rfl (fun _ => ?_) (fun _ => ?_))))
    refine J_leave Try.func11 rfl (.tmp rfl .nil) ⟨_, a', c', cells, by rw [← hkl]; rfl, by rw [← hkl]; exact hs.out (List.Sublist.refl _)⟩
/-- Right. -/
theorem right_r (w : World) (W R : Int) (a : Option Addr) (n c : Nat) : Ret Try.prog 13 #[.agg #[.int .i64 W, .int .i64 R, .slice a n c]] w fun v w' => Ext w w' ∧ v = .bool (colB W R n) := by
  refine Ret_of (l := [_]) Try.func13 rfl Try.ntmps13 (by simp) ?_
  have hs := St.init w
  repeat' (first
    | (apply JL_nil)
    | ((first | (apply JL_pure) | (apply JL_pure_on; exact rfl; (first | assumption | exact rfl | exact decide_eq_true (by first | assumption | omega) | exact decide_eq_false (by first | assumption | omega)))); (first
      | (apply as_move; first | exact OpR_move rfl is_rfl)
      | (apply as_assign; first | exact OpR_assign rfl is_rfl)
      | (apply as_fieldAddr; first | exact OpR_fieldAddr0 rfl rfl is_rfl | exact OpR_fieldAddr rfl rfl is_rfl)
      | (apply as_load; first | exact OpR_load' hs rfl rfl is_rfl | exact OpR_load_agg' hs rfl is_rfl)
      | (apply as_binOp; first | exact OpR_ibin rfl rfl rfl is_rfl | exact OpR_beq rfl rfl is_rfl | exact OpR_bne rfl rfl is_rfl | exact OpR_eqNil rfl rfl is_rfl | exact OpR_neNil rfl rfl is_rfl)
      | (apply as_pick; first | exact OpR_pick_t rfl (by first | assumption | rfl | exact decide_eq_true (by first | assumption | omega) | exact decide_eq_false (by first | assumption | omega)) rfl is_rfl | exact OpR_pick_f rfl (by first | assumption | rfl | exact decide_eq_true (by first | assumption | omega) | exact decide_eq_false (by first | assumption | omega)) rfl is_rfl)
      | (apply as_b_len; first | exact OpR_len rfl is_rfl | exact OpR_len_str rfl is_rfl | exact OpR_len_arr rfl is_rfl)); first | (exact rfl; exact rfl) | exact rfl)
    | (apply J_seq)
    | (apply J_region)
    | (apply al_none; (first | (refine JL_o (by apply as_box; exact OpR_box' hs rfl) rfl rfl ?_) | (refine JL_o (by apply as_alloc; exact OpR_alloc' hs) rfl rfl ?_)); rintro _ _ ⟨_, rfl, hb, hs, hE⟩)
    | (apply al_guard; first
    | (refine JL_no rfl (by first | assumption | rfl | exact decide_eq_true (by first | assumption | omega) | exact decide_eq_false (by first | assumption | omega)) rfl ?_)
    | (fail_if_success (apply JL_o_on rfl (by first | assumption | rfl | exact decide_eq_true (by first | assumption | omega) | exact decide_eq_false (by first | assumption | omega)))); first | (refine JL_split_dec rfl (fun _ => ?_) (fun _ => ?_)) | (refine JL_split rfl (fun _ => ?_) (fun _ => ?_)))
    | (apply aj_cond; first | refine J_dec_t rfl (by first | assumption | omega) ?_ | refine J_dec_f rfl (by first | assumption | omega) ?_ | refine J_cond_t rfl (by first | assumption | rfl | exact decide_eq_true (by first | assumption | omega) | exact decide_eq_false (by first | assumption | omega)) ?_ | refine J_cond_f rfl (by first | assumption | rfl | exact decide_eq_true (by first | assumption | omega) | exact decide_eq_false (by first | assumption | omega)) ?_ | (refine J_cond_dec rfl (fun _ => ?_) (fun _ => ?_)) | (refine J_cond rfl (fun _ => ?_) (fun _ => ?_))))
  all_goals refine J_leave Try.func13 rfl (.tmp rfl .nil) ⟨hs.frm.ext, ?_⟩
  all_goals simp only [mkRes]
  all_goals congr 1
  all_goals rw [Bool.eq_iff_iff, colB_iff]
  all_goals first
    | (constructor
       · intro h; cases h
       · intro h; exfalso; omega)
    | (have hb := mul_bd (a := W) (A := 4) (b := R) (B := 1048578) (by omega) (by omega) (by omega) (by omega)
       rw [IntWalk.i64_in _ (by omega), decide_eq_true_eq]
       omega)
/-- small. -/
def smallB (W R : Int) (n : Nat) : Bool := decide (R ≤ 200) || !colB W R n
theorem small_r (w : World) (W R : Int) (a : Option Addr) (n c : Nat) : Ret Try.prog 12 #[.agg #[.int .i64 W, .int .i64 R, .slice a n c]] w fun v w' => Ext w w' ∧ v = .bool (smallB W R n) := by
  refine Ret_of (l := [_]) Try.func12 rfl Try.ntmps12 (by simp) ?_
  have hs := St.init w
  repeat' (first
    | (refine JL_o_on rfl (by first | assumption | rfl | exact decide_eq_true (by first | assumption | omega) | exact decide_eq_false (by first | assumption | omega)) (OpR_callF en13 rfl (right_r _ W R a n c)) rfl rfl ?_; rintro _ _ ⟨hE, rfl⟩; have hs := hs.ext hE)
    | (apply JL_nil)
    | ((first | (apply JL_pure) | (apply JL_pure_on; exact rfl; (first | assumption | exact rfl | exact decide_eq_true (by first | assumption | omega) | exact decide_eq_false (by first | assumption | omega)))); (first
      | (apply as_move; first | exact OpR_move rfl is_rfl)
      | (apply as_assign; first | exact OpR_assign rfl is_rfl)
      | (apply as_fieldAddr; first | exact OpR_fieldAddr0 rfl rfl is_rfl | exact OpR_fieldAddr rfl rfl is_rfl)
      | (apply as_load; first | exact OpR_load' hs rfl rfl is_rfl | exact OpR_load_agg' hs rfl is_rfl)
      | (apply as_binOp; first | exact OpR_ibin rfl rfl rfl is_rfl | exact OpR_beq rfl rfl is_rfl | exact OpR_bne rfl rfl is_rfl | exact OpR_eqNil rfl rfl is_rfl | exact OpR_neNil rfl rfl is_rfl)
      | (apply as_unOp; first | exact OpR_not rfl is_rfl)
      | (apply as_pick; first | exact OpR_pick_t rfl (by first | assumption | rfl | exact decide_eq_true (by first | assumption | omega) | exact decide_eq_false (by first | assumption | omega)) rfl is_rfl | exact OpR_pick_f rfl (by first | assumption | rfl | exact decide_eq_true (by first | assumption | omega) | exact decide_eq_false (by first | assumption | omega)) rfl is_rfl)); first | (exact rfl; exact rfl) | exact rfl)
    | (apply J_seq)
    | (apply J_region)
    | (apply al_none; (first | (refine JL_o (by apply as_box; exact OpR_box' hs rfl) rfl rfl ?_) | (refine JL_o (by apply as_alloc; exact OpR_alloc' hs) rfl rfl ?_)); rintro _ _ ⟨_, rfl, hb, hs, hE⟩)
    | (apply al_guard; first
    | (refine JL_no rfl (by first | assumption | rfl | exact decide_eq_true (by first | assumption | omega) | exact decide_eq_false (by first | assumption | omega)) rfl ?_)
    | (fail_if_success (apply JL_o_on rfl (by first | assumption | rfl | exact decide_eq_true (by first | assumption | omega) | exact decide_eq_false (by first | assumption | omega)))); first | (refine JL_split_dec rfl (fun _ => ?_) (fun _ => ?_)) | (refine JL_split rfl (fun _ => ?_) (fun _ => ?_)))
    | (apply aj_cond; first | refine J_dec_t rfl (by first | assumption | omega) ?_ | refine J_dec_f rfl (by first | assumption | omega) ?_ | refine J_cond_t rfl (by first | assumption | rfl | exact decide_eq_true (by first | assumption | omega) | exact decide_eq_false (by first | assumption | omega)) ?_ | refine J_cond_f rfl (by first | assumption | rfl | exact decide_eq_true (by first | assumption | omega) | exact decide_eq_false (by first | assumption | omega)) ?_ | (refine J_cond_dec rfl (fun _ => ?_) (fun _ => ?_)) | (refine J_cond rfl (fun _ => ?_) (fun _ => ?_))))
  all_goals refine J_leave Try.func12 rfl (.tmp rfl .nil) ⟨hs.frm.ext, ?_⟩
  all_goals simp only [mkRes]
  all_goals congr 1
  all_goals first | (simp_all [smallB]; done) | (simp_all [smallB]; intro; omega)
theorem u64s_set (xs : List Int) (k : Nat) (v : Int) : u64s (xs.set k v) = (u64s xs).set k (.int .u64 v) := by simp [u64s, List.map_set]
/-- spoil: the words are written over. -/
theorem spoil_r (w : World) (W R : Int) (a : Option Addr) (n c : Nat) (ws : List Int) (h : Held w [Row a n c 41 1 (u64s ws)]) (hm : n ≤ 9223372036854775807) :
    Ret Try.prog 21 #[.agg #[.int .i64 W, .int .i64 R, .slice a n c]] w fun v w' => Turn w [Row a n c 41 1 (u64s ws)] w' [] := by
  refine Ret_of (l := [_]) Try.func21 rfl Try.ntmps21 (by simp) ?_
  have hs := h.st
  have hl0 := (hs.row a n c).len
  have hl : ws.length = n := by simpa using hl0
  repeat' (first
    | ((apply al_none; refine JL_o (by apply as_box; exact OpR_box' hs rfl) rfl rfl ?_; rintro _ _ ⟨b1, rfl, hb1, hs, hE⟩))
    | (apply JL_nil)
    | ((first | (apply JL_pure)); (first
      | (apply as_move; first | exact OpR_move rfl is_rfl)
      | (apply as_assign; first | exact OpR_assign rfl is_rfl)
      | (apply as_fieldAddr; first | exact OpR_fieldAddr0 rfl rfl is_rfl | exact OpR_fieldAddr rfl rfl is_rfl)
      | (apply as_load; first | exact OpR_load' hs rfl rfl is_rfl | exact OpR_load_agg' hs rfl is_rfl)
      | (apply as_add; first | exact OpR_addn rfl rfl (by omega) (by first | (simp only [Int.reduceAdd]; exact rfl) | exact rfl) is_rfl | exact OpR_ibin rfl rfl rfl is_rfl)
      | (apply as_binOp; first | exact OpR_ibin rfl rfl rfl is_rfl | exact OpR_beq rfl rfl is_rfl | exact OpR_bne rfl rfl is_rfl | exact OpR_eqNil rfl rfl is_rfl | exact OpR_neNil rfl rfl is_rfl)
      | (apply as_b_len; first | exact OpR_len rfl is_rfl | exact OpR_len_str rfl is_rfl | exact OpR_len_arr rfl is_rfl)
      | (apply as_indexAddr; first | exact OpR_indexAddr rfl rfl (by omega) (by omega) is_rfl | exact OpR_indexAddr_arr' rfl rfl (by omega) (by omega) (by first | (simp only [Int.reduceToNat, Nat.reduceMul, Nat.reduceAdd]; exact rfl) | exact rfl) is_rfl)); first | (exact rfl; exact rfl) | exact rfl)
    | (apply J_seq)
    | (apply J_region)
    | (apply J_block)
    | (apply J_inBlock)
    | (apply aj_exit; refine J_exit rfl ?_)
    | (apply J_skip)
    | (apply al_none; (first | (refine JL_o (by apply as_box; exact OpR_box' hs rfl) rfl rfl ?_) | (refine JL_o (by apply as_alloc; exact OpR_alloc' hs) rfl rfl ?_)); rintro _ _ ⟨_, rfl, hb, hs, hE⟩)
    | (apply al_unit; refine JL_u (by apply as_store; exact OpR_store' hs rfl rfl rfl) rfl ?_; rintro _ _ ⟨hs, hF⟩)
    | (apply aj_cond; first | refine J_dec_t rfl (by first | assumption | omega) ?_ | refine J_dec_f rfl (by first | assumption | omega) ?_ | refine J_cond_t rfl (by first | assumption | rfl | exact decide_eq_true (by first | assumption | omega) | exact decide_eq_false (by first | assumption | omega)) ?_ | refine J_cond_f rfl (by first | assumption | rfl | exact decide_eq_true (by first | assumption | omega) | exact decide_eq_false (by first | assumption | omega)) ?_ | (refine J_cond_dec rfl (fun _ => ?_) (fun _ => ?_)) | (refine J_cond rfl (fun _ => ?_) (fun _ => ?_))))
  refine J_loop (α := Nat × List Int) (fun g w' => St w _ w' [Blk b1 (.cells #[.int .i64 W, .int .i64 R, .slice a n c] 24 (0, 0)), Row a n c 41 1 (u64s g.2)] ∧ g.1 ≤ n ∧ g.2.length = n)
    (fun g => [(1, ptr b1), (5, .int .i64 n), (6, .int .i64 g.1)]) (fun g => n - g.1) (0, ws) ⟨hs, by omega, hl⟩ ⟨rfl, rfl, rfl, trivial⟩ ?_
  rintro ⟨k, xs⟩ w' ⟨hs, hk, hx⟩ ih
  dsimp only at hs hk ih hx ⊢
  by_cases hlt : k < n
  · obtain ⟨b, o, rfl⟩ := (hs.row a n c).some (by omega)
    have hcell : (u64s xs)[k]? = some (.int .u64 xs[k]) := by rw [List.getElem?_map, List.getElem?_eq_getElem (by omega)]; rfl
    repeat' (first
      | ((apply al_unit; refine JL_u (by apply as_store; exact OpR_storeRow (b := b) (o := o) (i := k) (n := n) (c := c) hs rfl rfl rfl rfl hlt) rfl ?_; rintro _ _ ⟨hs, hF⟩))
      | (apply JL_nil)
      | ((first | (apply JL_pure)); (first
      | (apply as_load; exact OpR_loadRow (b := b) (o := o) (i := k) (n := n) (c := c) hs rfl hcell is_rfl)
      | (apply as_move; first | exact OpR_move rfl is_rfl)
      | (apply as_assign; first | exact OpR_assign rfl is_rfl)
      | (apply as_fieldAddr; first | exact OpR_fieldAddr0 rfl rfl is_rfl | exact OpR_fieldAddr rfl rfl is_rfl)
      | (apply as_load; first | exact OpR_load' hs rfl rfl is_rfl | exact OpR_load_agg' hs rfl is_rfl)
      | (apply as_add; first | exact OpR_addn rfl rfl (by omega) (by first | (simp only [Int.reduceAdd]; exact rfl) | exact rfl) is_rfl | exact OpR_ibin rfl rfl rfl is_rfl)
      | (apply as_binOp; first | exact OpR_ibin rfl rfl rfl is_rfl | exact OpR_beq rfl rfl is_rfl | exact OpR_bne rfl rfl is_rfl | exact OpR_eqNil rfl rfl is_rfl | exact OpR_neNil rfl rfl is_rfl)
      | (apply as_b_len; first | exact OpR_len rfl is_rfl | exact OpR_len_str rfl is_rfl | exact OpR_len_arr rfl is_rfl)
      | (apply as_indexAddr; first | exact OpR_indexAddr rfl rfl (by omega) (by omega) is_rfl | exact OpR_indexAddr_arr' rfl rfl (by omega) (by omega) (by first | (simp only [Int.reduceToNat, Nat.reduceMul, Nat.reduceAdd]; exact rfl) | exact rfl) is_rfl)); first | (exact rfl; exact rfl) | exact rfl)
      | (apply J_seq)
      | (apply J_region)
      | (apply J_block)
      | (apply J_inBlock)
      | (apply aj_exit; refine J_exit rfl ?_)
      | (apply J_skip)
      | (apply al_none; (first | (refine JL_o (by apply as_box; exact OpR_box' hs rfl) rfl rfl ?_) | (refine JL_o (by apply as_alloc; exact OpR_alloc' hs) rfl rfl ?_)); rintro _ _ ⟨_, rfl, hb, hs, hE⟩)
      | (apply al_unit; refine JL_u (by apply as_store; exact OpR_store' hs rfl rfl rfl) rfl ?_; rintro _ _ ⟨hs, hF⟩)
      | (apply aj_cond; first | refine J_dec_t rfl (by first | assumption | omega) ?_ | refine J_dec_f rfl (by first | assumption | omega) ?_ | refine J_cond_t rfl (by first | assumption | rfl | exact decide_eq_true (by first | assumption | omega) | exact decide_eq_false (by first | assumption | omega)) ?_ | refine J_cond_f rfl (by first | assumption | rfl | exact decide_eq_true (by first | assumption | omega) | exact decide_eq_false (by first | assumption | omega)) ?_ | (refine J_cond_dec rfl (fun _ => ?_) (fun _ => ?_)) | (refine J_cond rfl (fun _ => ?_) (fun _ => ?_))))
    refine J.to (ih (k + 1, xs.set k _) _ ⟨by dsimp only; rw [u64s_set]; exact hs, by omega, by simpa using hx⟩ (by dsimp only; omega)) ⟨rfl, rfl, rfl, trivial⟩
  · repeat' (first
      | (apply JL_nil)
      | ((first | (apply JL_pure)); (first
      | (apply as_move; first | exact OpR_move rfl is_rfl)
      | (apply as_assign; first | exact OpR_assign rfl is_rfl)
      | (apply as_fieldAddr; first | exact OpR_fieldAddr0 rfl rfl is_rfl | exact OpR_fieldAddr rfl rfl is_rfl)
      | (apply as_load; first | exact OpR_load' hs rfl rfl is_rfl | exact OpR_load_agg' hs rfl is_rfl)
      | (apply as_add; first | exact OpR_addn rfl rfl (by omega) (by first | (simp only [Int.reduceAdd]; exact rfl) | exact rfl) is_rfl | exact OpR_ibin rfl rfl rfl is_rfl)
      | (apply as_binOp; first | exact OpR_ibin rfl rfl rfl is_rfl | exact OpR_beq rfl rfl is_rfl | exact OpR_bne rfl rfl is_rfl | exact OpR_eqNil rfl rfl is_rfl | exact OpR_neNil rfl rfl is_rfl)
      | (apply as_b_len; first | exact OpR_len rfl is_rfl | exact OpR_len_str rfl is_rfl | exact OpR_len_arr rfl is_rfl)
      | (apply as_indexAddr; first | exact OpR_indexAddr rfl rfl (by omega) (by omega) is_rfl | exact OpR_indexAddr_arr' rfl rfl (by omega) (by omega) (by first | (simp only [Int.reduceToNat, Nat.reduceMul, Nat.reduceAdd]; exact rfl) | exact rfl) is_rfl)); first | (exact rfl; exact rfl) | exact rfl)
      | (apply J_seq)
      | (apply J_region)
      | (apply J_block)
      | (apply J_inBlock)
      | (apply aj_exit; refine J_exit rfl ?_)
      | (apply J_skip)
      | (apply al_none; (first | (refine JL_o (by apply as_box; exact OpR_box' hs rfl) rfl rfl ?_) | (refine JL_o (by apply as_alloc; exact OpR_alloc' hs) rfl rfl ?_)); rintro _ _ ⟨_, rfl, hb, hs, hE⟩)
      | (apply al_unit; refine JL_u (by apply as_store; exact OpR_store' hs rfl rfl rfl) rfl ?_; rintro _ _ ⟨hs, hF⟩)
      | (apply aj_cond; first | refine J_dec_t rfl (by first | assumption | omega) ?_ | refine J_dec_f rfl (by first | assumption | omega) ?_ | refine J_cond_t rfl (by first | assumption | rfl | exact decide_eq_true (by first | assumption | omega) | exact decide_eq_false (by first | assumption | omega)) ?_ | refine J_cond_f rfl (by first | assumption | rfl | exact decide_eq_true (by first | assumption | omega) | exact decide_eq_false (by first | assumption | omega)) ?_ | (refine J_cond_dec rfl (fun _ => ?_) (fun _ => ?_)) | (refine J_cond rfl (fun _ => ?_) (fun _ => ?_))))
    refine J_leave_end Try.func21 rfl .nil ?_
    exact St.turned (M := []) (A' := []) (hs.sub (List.nil_sublist _))
/-- The reference's Same. -/
theorem rsame_r (w : World) (W1 R1 W2 R2 : Int) (a1 a2 : Option Addr) (n1 c1 n2 c2 : Nat) (xs ys : List Int) (h1 : SlR (tInt .u64) All w a1 n1 xs) (h2 : SlR (tInt .u64) All w a2 n2 ys) (hm : n1 ≤ 9223372036854775807) :
    Ret Try.prog 20 #[.agg #[.int .i64 W1, .int .i64 R1, .slice a1 n1 c1], .agg #[.int .i64 W2, .int .i64 R2, .slice a2 n2 c2]] w fun v w' => v = .bool (decide (W1 = W2 ∧ R1 = R2 ∧ xs = ys)) ∧ Ext w w' := by
  refine Ret_of (l := [_, _]) Try.func20 rfl Try.ntmps20 (by simp) ?_
  have hs := St.init w
  have hl1 := h1.len
  have hl2 := h2.len
  by_cases hW : W1 = W2
  · subst hW
    by_cases hR : R1 = R2
    · subst hR
      by_cases hn : n1 = n2
      · subst hn
        repeat' (first
          | ((apply al_none; refine JL_o (by apply as_box; exact OpR_box' (x := .tmp 0) hs rfl) rfl rfl ?_; rintro _ _ ⟨b2, rfl, hb2, hs, hE⟩))
          | ((apply al_none; refine JL_o (by apply as_box; exact OpR_box' (x := .tmp 1) hs rfl) rfl rfl ?_; rintro _ _ ⟨b3, rfl, hb3, hs, hE⟩))
          | (apply JL_nil)
          | ((first | (apply JL_pure) | (apply JL_pure_on; exact rfl; (first | assumption | exact rfl | exact decide_eq_true (by first | assumption | omega) | exact decide_eq_false (by first | assumption | omega)))); (first
      | (apply as_move; first | exact OpR_move rfl is_rfl)
      | (apply as_assign; first | exact OpR_assign rfl is_rfl)
      | (apply as_fieldAddr; first | exact OpR_fieldAddr0 rfl rfl is_rfl | exact OpR_fieldAddr rfl rfl is_rfl)
      | (apply as_load; first | exact OpR_load' hs rfl rfl is_rfl | exact OpR_load_agg' hs rfl is_rfl)
      | (apply as_add; first | exact OpR_addn rfl rfl (by omega) (by first | (simp only [Int.reduceAdd]; exact rfl) | exact rfl) is_rfl | exact OpR_ibin rfl rfl rfl is_rfl)
      | (apply as_binOp; first | exact OpR_ibin rfl rfl rfl is_rfl | exact OpR_beq rfl rfl is_rfl | exact OpR_bne rfl rfl is_rfl | exact OpR_eqNil rfl rfl is_rfl | exact OpR_neNil rfl rfl is_rfl)
      | (apply as_pick; first | exact OpR_pick_t rfl (by first | assumption | rfl | exact decide_eq_true (by first | assumption | omega) | exact decide_eq_false (by first | assumption | omega)) rfl is_rfl | exact OpR_pick_f rfl (by first | assumption | rfl | exact decide_eq_true (by first | assumption | omega) | exact decide_eq_false (by first | assumption | omega)) rfl is_rfl)
      | (apply as_b_len; first | exact OpR_len rfl is_rfl | exact OpR_len_str rfl is_rfl | exact OpR_len_arr rfl is_rfl)
      | (apply as_indexAddr; first | exact OpR_indexAddr rfl rfl (by omega) (by omega) is_rfl | exact OpR_indexAddr_arr' rfl rfl (by omega) (by omega) (by first | (simp only [Int.reduceToNat, Nat.reduceMul, Nat.reduceAdd]; exact rfl) | exact rfl) is_rfl)); first | (exact rfl; exact rfl) | exact rfl)
          | (apply J_seq)
          | (apply J_region)
          | (apply J_block)
          | (apply J_inBlock)
          | (apply aj_exit; refine J_exit rfl ?_)
          | (apply J_skip)
          | (apply al_none; (first | (refine JL_o (by apply as_box; exact OpR_box' hs rfl) rfl rfl ?_) | (refine JL_o (by apply as_alloc; exact OpR_alloc' hs) rfl rfl ?_)); rintro _ _ ⟨_, rfl, hb, hs, hE⟩)
          | (apply al_guard; first
    | (refine JL_no rfl (by first | assumption | rfl | exact decide_eq_true (by first | assumption | omega) | exact decide_eq_false (by first | assumption | omega)) rfl ?_)
    | (fail_if_success (apply JL_o_on rfl (by first | assumption | rfl | exact decide_eq_true (by first | assumption | omega) | exact decide_eq_false (by first | assumption | omega)))); first | (refine JL_split_dec rfl (fun _ => ?_) (fun _ => ?_)) | (refine JL_split rfl (fun _ => ?_) (fun _ => ?_)))
          | (apply aj_cond; first | refine J_dec_t rfl (by first | assumption | omega) ?_ | refine J_dec_f rfl (by first | assumption | omega) ?_ | refine J_cond_t rfl (by first | assumption | rfl | exact decide_eq_true (by first | assumption | omega) | exact decide_eq_false (by first | assumption | omega)) ?_ | refine J_cond_f rfl (by first | assumption | rfl | exact decide_eq_true (by first | assumption | omega) | exact decide_eq_false (by first | assumption | omega)) ?_ | (refine J_cond_dec rfl (fun _ => ?_) (fun _ => ?_)) | (refine J_cond rfl (fun _ => ?_) (fun _ => ?_))))
        refine J_loop (fun k w' => St w NoF w' [Blk b3 (.cells #[.int .i64 W1, .int .i64 R1, .slice a2 n1 c2] 24 (0, 0)), Blk b2 (.cells #[.int .i64 W1, .int .i64 R1, .slice a1 n1 c1] 24 (0, 0))] ∧ k ≤ n1 ∧ ∀ j, j < k → xs[j]? = ys[j]?)
          (fun k => [(2, ptr b2), (3, ptr b3), (29, .slice a1 n1 c1), (30, .int .i64 n1), (31, .int .i64 k)]) (fun k => n1 - k) 0 ⟨hs, by omega, by simp⟩ ⟨rfl, rfl, rfl, rfl, rfl, trivial⟩ ?_
        rintro k w' ⟨hs, hk, hj⟩ ih
        by_cases hlt : k < n1
        · obtain ⟨p1, o1, rfl⟩ := h1.addr (by omega)
          obtain ⟨p2, o2, rfl⟩ := h2.addr (by omega)
          have hx : xs[k]? = some xs[k] := List.getElem?_eq_getElem (by omega)
          have hy : ys[k]? = some ys[k] := List.getElem?_eq_getElem (by omega)
          repeat' (first
            | (apply JL_nil)
            | ((first | (apply JL_pure) | (apply JL_pure_on; exact rfl; (first | assumption | exact rfl | exact decide_eq_true (by first | assumption | omega) | exact decide_eq_false (by first | assumption | omega)))); (first
      | (apply as_load; first | exact OpR_load_int (h1.st hs) rfl hx is_rfl | exact OpR_load_int (h2.st hs) rfl hy is_rfl)
      | (apply as_move; first | exact OpR_move rfl is_rfl)
      | (apply as_assign; first | exact OpR_assign rfl is_rfl)
      | (apply as_fieldAddr; first | exact OpR_fieldAddr0 rfl rfl is_rfl | exact OpR_fieldAddr rfl rfl is_rfl)
      | (apply as_load; first | exact OpR_load' hs rfl rfl is_rfl | exact OpR_load_agg' hs rfl is_rfl)
      | (apply as_add; first | exact OpR_addn rfl rfl (by omega) (by first | (simp only [Int.reduceAdd]; exact rfl) | exact rfl) is_rfl | exact OpR_ibin rfl rfl rfl is_rfl)
      | (apply as_binOp; first | exact OpR_ibin rfl rfl rfl is_rfl | exact OpR_beq rfl rfl is_rfl | exact OpR_bne rfl rfl is_rfl | exact OpR_eqNil rfl rfl is_rfl | exact OpR_neNil rfl rfl is_rfl)
      | (apply as_pick; first | exact OpR_pick_t rfl (by first | assumption | rfl | exact decide_eq_true (by first | assumption | omega) | exact decide_eq_false (by first | assumption | omega)) rfl is_rfl | exact OpR_pick_f rfl (by first | assumption | rfl | exact decide_eq_true (by first | assumption | omega) | exact decide_eq_false (by first | assumption | omega)) rfl is_rfl)
      | (apply as_b_len; first | exact OpR_len rfl is_rfl | exact OpR_len_str rfl is_rfl | exact OpR_len_arr rfl is_rfl)
      | (apply as_indexAddr; first | exact OpR_indexAddr rfl rfl (by omega) (by omega) is_rfl | exact OpR_indexAddr_arr' rfl rfl (by omega) (by omega) (by first | (simp only [Int.reduceToNat, Nat.reduceMul, Nat.reduceAdd]; exact rfl) | exact rfl) is_rfl)); first | (exact rfl; exact rfl) | exact rfl)
            | (apply J_seq)
            | (apply J_region)
            | (apply J_block)
            | (apply J_inBlock)
            | (apply aj_exit; refine J_exit rfl ?_)
            | (apply J_skip)
            | (apply al_none; (first | (refine JL_o (by apply as_box; exact OpR_box' hs rfl) rfl rfl ?_) | (refine JL_o (by apply as_alloc; exact OpR_alloc' hs) rfl rfl ?_)); rintro _ _ ⟨_, rfl, hb, hs, hE⟩)
            | (apply al_guard; first
    | (refine JL_no rfl (by first | assumption | rfl | exact decide_eq_true (by first | assumption | omega) | exact decide_eq_false (by first | assumption | omega)) rfl ?_)
    | (fail_if_success (apply JL_o_on rfl (by first | assumption | rfl | exact decide_eq_true (by first | assumption | omega) | exact decide_eq_false (by first | assumption | omega)))); first | (refine JL_split_dec rfl (fun _ => ?_) (fun _ => ?_)) | (refine JL_split rfl (fun _ => ?_) (fun _ => ?_)))
            | (apply aj_cond; first | refine J_dec_t rfl (by first | assumption | omega) ?_ | refine J_dec_f rfl (by first | assumption | omega) ?_ | refine J_cond_t rfl (by first | assumption | rfl | exact decide_eq_true (by first | assumption | omega) | exact decide_eq_false (by first | assumption | omega)) ?_ | refine J_cond_f rfl (by first | assumption | rfl | exact decide_eq_true (by first | assumption | omega) | exact decide_eq_false (by first | assumption | omega)) ?_ | (refine J_cond_dec rfl (fun _ => ?_) (fun _ => ?_)) | (refine J_cond rfl (fun _ => ?_) (fun _ => ?_))))
          · refine J_leave Try.func20 rfl (.tmp rfl .nil) ⟨?_, hs.frm.ext⟩
            simp only [mkRes]
            congr 1
            rw [eq_comm, decide_eq_false_iff_not]
            rintro ⟨-, -, e⟩; subst e; simp at *
          · refine J.to (ih (k + 1) _ ⟨hs, by omega, fun j hj' => ?_⟩ (by omega)) ⟨rfl, rfl, rfl, rfl, rfl, trivial⟩
            by_cases e : j = k
            · subst e; rw [hx, hy]; congr 1; simp_all
            · exact hj j (by omega)
        · repeat' (first
            | (apply JL_nil)
            | ((first | (apply JL_pure) | (apply JL_pure_on; exact rfl; (first | assumption | exact rfl | exact decide_eq_true (by first | assumption | omega) | exact decide_eq_false (by first | assumption | omega)))); (first
      | (apply as_move; first | exact OpR_move rfl is_rfl)
      | (apply as_assign; first | exact OpR_assign rfl is_rfl)
      | (apply as_fieldAddr; first | exact OpR_fieldAddr0 rfl rfl is_rfl | exact OpR_fieldAddr rfl rfl is_rfl)
      | (apply as_load; first | exact OpR_load' hs rfl rfl is_rfl | exact OpR_load_agg' hs rfl is_rfl)
      | (apply as_add; first | exact OpR_addn rfl rfl (by omega) (by first | (simp only [Int.reduceAdd]; exact rfl) | exact rfl) is_rfl | exact OpR_ibin rfl rfl rfl is_rfl)
      | (apply as_binOp; first | exact OpR_ibin rfl rfl rfl is_rfl | exact OpR_beq rfl rfl is_rfl | exact OpR_bne rfl rfl is_rfl | exact OpR_eqNil rfl rfl is_rfl | exact OpR_neNil rfl rfl is_rfl)
      | (apply as_pick; first | exact OpR_pick_t rfl (by first | assumption | rfl | exact decide_eq_true (by first | assumption | omega) | exact decide_eq_false (by first | assumption | omega)) rfl is_rfl | exact OpR_pick_f rfl (by first | assumption | rfl | exact decide_eq_true (by first | assumption | omega) | exact decide_eq_false (by first | assumption | omega)) rfl is_rfl)
      | (apply as_b_len; first | exact OpR_len rfl is_rfl | exact OpR_len_str rfl is_rfl | exact OpR_len_arr rfl is_rfl)
      | (apply as_indexAddr; first | exact OpR_indexAddr rfl rfl (by omega) (by omega) is_rfl | exact OpR_indexAddr_arr' rfl rfl (by omega) (by omega) (by first | (simp only [Int.reduceToNat, Nat.reduceMul, Nat.reduceAdd]; exact rfl) | exact rfl) is_rfl)); first | (exact rfl; exact rfl) | exact rfl)
            | (apply J_seq)
            | (apply J_region)
            | (apply J_block)
            | (apply J_inBlock)
            | (apply aj_exit; refine J_exit rfl ?_)
            | (apply J_skip)
            | (apply al_none; (first | (refine JL_o (by apply as_box; exact OpR_box' hs rfl) rfl rfl ?_) | (refine JL_o (by apply as_alloc; exact OpR_alloc' hs) rfl rfl ?_)); rintro _ _ ⟨_, rfl, hb, hs, hE⟩)
            | (apply al_guard; first
    | (refine JL_no rfl (by first | assumption | rfl | exact decide_eq_true (by first | assumption | omega) | exact decide_eq_false (by first | assumption | omega)) rfl ?_)
    | (fail_if_success (apply JL_o_on rfl (by first | assumption | rfl | exact decide_eq_true (by first | assumption | omega) | exact decide_eq_false (by first | assumption | omega)))); first | (refine JL_split_dec rfl (fun _ => ?_) (fun _ => ?_)) | (refine JL_split rfl (fun _ => ?_) (fun _ => ?_)))
            | (apply aj_cond; first | refine J_dec_t rfl (by first | assumption | omega) ?_ | refine J_dec_f rfl (by first | assumption | omega) ?_ | refine J_cond_t rfl (by first | assumption | rfl | exact decide_eq_true (by first | assumption | omega) | exact decide_eq_false (by first | assumption | omega)) ?_ | refine J_cond_f rfl (by first | assumption | rfl | exact decide_eq_true (by first | assumption | omega) | exact decide_eq_false (by first | assumption | omega)) ?_ | (refine J_cond_dec rfl (fun _ => ?_) (fun _ => ?_)) | (refine J_cond rfl (fun _ => ?_) (fun _ => ?_))))
          refine J_leave Try.func20 rfl (.tmp rfl .nil) ⟨?_, hs.frm.ext⟩
          simp only [mkRes]
          congr 1
          rw [eq_comm, decide_eq_true_eq]
          refine ⟨by trivial, by trivial, ?_⟩
          apply List.ext_getElem?
          intro i
          by_cases hi : i < n1
          · exact hj i (by omega)
          · rw [List.getElem?_eq_none (by omega), List.getElem?_eq_none (by omega)]
      · have hne : xs ≠ ys := by intro e; subst e; omega
        repeat' (first
          | (apply JL_nil)
          | ((first | (apply JL_pure) | (apply JL_pure_on; exact rfl; (first | assumption | exact rfl | exact decide_eq_true (by first | assumption | omega) | exact decide_eq_false (by first | assumption | omega)))); (first
      | (apply as_move; first | exact OpR_move rfl is_rfl)
      | (apply as_assign; first | exact OpR_assign rfl is_rfl)
      | (apply as_fieldAddr; first | exact OpR_fieldAddr0 rfl rfl is_rfl | exact OpR_fieldAddr rfl rfl is_rfl)
      | (apply as_load; first | exact OpR_load' hs rfl rfl is_rfl | exact OpR_load_agg' hs rfl is_rfl)
      | (apply as_add; first | exact OpR_addn rfl rfl (by omega) (by first | (simp only [Int.reduceAdd]; exact rfl) | exact rfl) is_rfl | exact OpR_ibin rfl rfl rfl is_rfl)
      | (apply as_binOp; first | exact OpR_ibin rfl rfl rfl is_rfl | exact OpR_beq rfl rfl is_rfl | exact OpR_bne rfl rfl is_rfl | exact OpR_eqNil rfl rfl is_rfl | exact OpR_neNil rfl rfl is_rfl)
      | (apply as_pick; first | exact OpR_pick_t rfl (by first | assumption | rfl | exact decide_eq_true (by first | assumption | omega) | exact decide_eq_false (by first | assumption | omega)) rfl is_rfl | exact OpR_pick_f rfl (by first | assumption | rfl | exact decide_eq_true (by first | assumption | omega) | exact decide_eq_false (by first | assumption | omega)) rfl is_rfl)
      | (apply as_b_len; first | exact OpR_len rfl is_rfl | exact OpR_len_str rfl is_rfl | exact OpR_len_arr rfl is_rfl)
      | (apply as_indexAddr; first | exact OpR_indexAddr rfl rfl (by omega) (by omega) is_rfl | exact OpR_indexAddr_arr' rfl rfl (by omega) (by omega) (by first | (simp only [Int.reduceToNat, Nat.reduceMul, Nat.reduceAdd]; exact rfl) | exact rfl) is_rfl)); first | (exact rfl; exact rfl) | exact rfl)
          | (apply J_seq)
          | (apply J_region)
          | (apply J_block)
          | (apply J_inBlock)
          | (apply aj_exit; refine J_exit rfl ?_)
          | (apply J_skip)
          | (apply al_none; (first | (refine JL_o (by apply as_box; exact OpR_box' hs rfl) rfl rfl ?_) | (refine JL_o (by apply as_alloc; exact OpR_alloc' hs) rfl rfl ?_)); rintro _ _ ⟨_, rfl, hb, hs, hE⟩)
          | (apply al_guard; first
    | (refine JL_no rfl (by first | assumption | rfl | exact decide_eq_true (by first | assumption | omega) | exact decide_eq_false (by first | assumption | omega)) rfl ?_)
    | (fail_if_success (apply JL_o_on rfl (by first | assumption | rfl | exact decide_eq_true (by first | assumption | omega) | exact decide_eq_false (by first | assumption | omega)))); first | (refine JL_split_dec rfl (fun _ => ?_) (fun _ => ?_)) | (refine JL_split rfl (fun _ => ?_) (fun _ => ?_)))
          | (apply aj_cond; first | refine J_dec_t rfl (by first | assumption | omega) ?_ | refine J_dec_f rfl (by first | assumption | omega) ?_ | refine J_cond_t rfl (by first | assumption | rfl | exact decide_eq_true (by first | assumption | omega) | exact decide_eq_false (by first | assumption | omega)) ?_ | refine J_cond_f rfl (by first | assumption | rfl | exact decide_eq_true (by first | assumption | omega) | exact decide_eq_false (by first | assumption | omega)) ?_ | (refine J_cond_dec rfl (fun _ => ?_) (fun _ => ?_)) | (refine J_cond rfl (fun _ => ?_) (fun _ => ?_))))
        all_goals refine J_leave Try.func20 rfl (.tmp rfl .nil) ⟨?_, hs.frm.ext⟩
        all_goals simp [mkRes, hne]
    · repeat' (first
        | (apply JL_nil)
        | ((first | (apply JL_pure) | (apply JL_pure_on; exact rfl; (first | assumption | exact rfl | exact decide_eq_true (by first | assumption | omega) | exact decide_eq_false (by first | assumption | omega)))); (first
      | (apply as_move; first | exact OpR_move rfl is_rfl)
      | (apply as_assign; first | exact OpR_assign rfl is_rfl)
      | (apply as_fieldAddr; first | exact OpR_fieldAddr0 rfl rfl is_rfl | exact OpR_fieldAddr rfl rfl is_rfl)
      | (apply as_load; first | exact OpR_load' hs rfl rfl is_rfl | exact OpR_load_agg' hs rfl is_rfl)
      | (apply as_add; first | exact OpR_addn rfl rfl (by omega) (by first | (simp only [Int.reduceAdd]; exact rfl) | exact rfl) is_rfl | exact OpR_ibin rfl rfl rfl is_rfl)
      | (apply as_binOp; first | exact OpR_ibin rfl rfl rfl is_rfl | exact OpR_beq rfl rfl is_rfl | exact OpR_bne rfl rfl is_rfl | exact OpR_eqNil rfl rfl is_rfl | exact OpR_neNil rfl rfl is_rfl)
      | (apply as_pick; first | exact OpR_pick_t rfl (by first | assumption | rfl | exact decide_eq_true (by first | assumption | omega) | exact decide_eq_false (by first | assumption | omega)) rfl is_rfl | exact OpR_pick_f rfl (by first | assumption | rfl | exact decide_eq_true (by first | assumption | omega) | exact decide_eq_false (by first | assumption | omega)) rfl is_rfl)
      | (apply as_b_len; first | exact OpR_len rfl is_rfl | exact OpR_len_str rfl is_rfl | exact OpR_len_arr rfl is_rfl)
      | (apply as_indexAddr; first | exact OpR_indexAddr rfl rfl (by omega) (by omega) is_rfl | exact OpR_indexAddr_arr' rfl rfl (by omega) (by omega) (by first | (simp only [Int.reduceToNat, Nat.reduceMul, Nat.reduceAdd]; exact rfl) | exact rfl) is_rfl)); first | (exact rfl; exact rfl) | exact rfl)
        | (apply J_seq)
        | (apply J_region)
        | (apply J_block)
        | (apply J_inBlock)
        | (apply aj_exit; refine J_exit rfl ?_)
        | (apply J_skip)
        | (apply al_none; (first | (refine JL_o (by apply as_box; exact OpR_box' hs rfl) rfl rfl ?_) | (refine JL_o (by apply as_alloc; exact OpR_alloc' hs) rfl rfl ?_)); rintro _ _ ⟨_, rfl, hb, hs, hE⟩)
        | (apply al_guard; first
    | (refine JL_no rfl (by first | assumption | rfl | exact decide_eq_true (by first | assumption | omega) | exact decide_eq_false (by first | assumption | omega)) rfl ?_)
    | (fail_if_success (apply JL_o_on rfl (by first | assumption | rfl | exact decide_eq_true (by first | assumption | omega) | exact decide_eq_false (by first | assumption | omega)))); first | (refine JL_split_dec rfl (fun _ => ?_) (fun _ => ?_)) | (refine JL_split rfl (fun _ => ?_) (fun _ => ?_)))
        | (apply aj_cond; first | refine J_dec_t rfl (by first | assumption | omega) ?_ | refine J_dec_f rfl (by first | assumption | omega) ?_ | refine J_cond_t rfl (by first | assumption | rfl | exact decide_eq_true (by first | assumption | omega) | exact decide_eq_false (by first | assumption | omega)) ?_ | refine J_cond_f rfl (by first | assumption | rfl | exact decide_eq_true (by first | assumption | omega) | exact decide_eq_false (by first | assumption | omega)) ?_ | (refine J_cond_dec rfl (fun _ => ?_) (fun _ => ?_)) | (refine J_cond rfl (fun _ => ?_) (fun _ => ?_))))
      all_goals refine J_leave Try.func20 rfl (.tmp rfl .nil) ⟨?_, hs.frm.ext⟩
      all_goals simp [mkRes, hR]
  · repeat' (first
      | (apply JL_nil)
      | ((first | (apply JL_pure) | (apply JL_pure_on; exact rfl; (first | assumption | exact rfl | exact decide_eq_true (by first | assumption | omega) | exact decide_eq_false (by first | assumption | omega)))); (first
      | (apply as_move; first | exact OpR_move rfl is_rfl)
      | (apply as_assign; first | exact OpR_assign rfl is_rfl)
      | (apply as_fieldAddr; first | exact OpR_fieldAddr0 rfl rfl is_rfl | exact OpR_fieldAddr rfl rfl is_rfl)
      | (apply as_load; first | exact OpR_load' hs rfl rfl is_rfl | exact OpR_load_agg' hs rfl is_rfl)
      | (apply as_add; first | exact OpR_addn rfl rfl (by omega) (by first | (simp only [Int.reduceAdd]; exact rfl) | exact rfl) is_rfl | exact OpR_ibin rfl rfl rfl is_rfl)
      | (apply as_binOp; first | exact OpR_ibin rfl rfl rfl is_rfl | exact OpR_beq rfl rfl is_rfl | exact OpR_bne rfl rfl is_rfl | exact OpR_eqNil rfl rfl is_rfl | exact OpR_neNil rfl rfl is_rfl)
      | (apply as_pick; first | exact OpR_pick_t rfl (by first | assumption | rfl | exact decide_eq_true (by first | assumption | omega) | exact decide_eq_false (by first | assumption | omega)) rfl is_rfl | exact OpR_pick_f rfl (by first | assumption | rfl | exact decide_eq_true (by first | assumption | omega) | exact decide_eq_false (by first | assumption | omega)) rfl is_rfl)
      | (apply as_b_len; first | exact OpR_len rfl is_rfl | exact OpR_len_str rfl is_rfl | exact OpR_len_arr rfl is_rfl)
      | (apply as_indexAddr; first | exact OpR_indexAddr rfl rfl (by omega) (by omega) is_rfl | exact OpR_indexAddr_arr' rfl rfl (by omega) (by omega) (by first | (simp only [Int.reduceToNat, Nat.reduceMul, Nat.reduceAdd]; exact rfl) | exact rfl) is_rfl)); first | (exact rfl; exact rfl) | exact rfl)
      | (apply J_seq)
      | (apply J_region)
      | (apply J_block)
      | (apply J_inBlock)
      | (apply aj_exit; refine J_exit rfl ?_)
      | (apply J_skip)
      | (apply al_none; (first | (refine JL_o (by apply as_box; exact OpR_box' hs rfl) rfl rfl ?_) | (refine JL_o (by apply as_alloc; exact OpR_alloc' hs) rfl rfl ?_)); rintro _ _ ⟨_, rfl, hb, hs, hE⟩)
      | (apply al_guard; first
    | (refine JL_no rfl (by first | assumption | rfl | exact decide_eq_true (by first | assumption | omega) | exact decide_eq_false (by first | assumption | omega)) rfl ?_)
    | (fail_if_success (apply JL_o_on rfl (by first | assumption | rfl | exact decide_eq_true (by first | assumption | omega) | exact decide_eq_false (by first | assumption | omega)))); first | (refine JL_split_dec rfl (fun _ => ?_) (fun _ => ?_)) | (refine JL_split rfl (fun _ => ?_) (fun _ => ?_)))
      | (apply aj_cond; first | refine J_dec_t rfl (by first | assumption | omega) ?_ | refine J_dec_f rfl (by first | assumption | omega) ?_ | refine J_cond_t rfl (by first | assumption | rfl | exact decide_eq_true (by first | assumption | omega) | exact decide_eq_false (by first | assumption | omega)) ?_ | refine J_cond_f rfl (by first | assumption | rfl | exact decide_eq_true (by first | assumption | omega) | exact decide_eq_false (by first | assumption | omega)) ?_ | (refine J_cond_dec rfl (fun _ => ?_) (fun _ => ?_)) | (refine J_cond rfl (fun _ => ?_) (fun _ => ?_))))
    all_goals refine J_leave Try.func20 rfl (.tmp rfl .nil) ⟨?_, hs.frm.ext⟩
    all_goals simp [mkRes, hW]
end Go.Eng
