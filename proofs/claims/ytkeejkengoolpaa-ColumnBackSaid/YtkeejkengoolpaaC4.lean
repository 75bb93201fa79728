/- Column: Get, Push, Move. -/
import Derived.Test.YtkeejkengoolpaaC3
namespace Go.Eng
open Go.Proofs
attribute [local irreducible] J JL JD OpR OpG Ret RetV Is Blk Row
set_option maxRecDepth 100000
set_option maxHeartbeats 400000
set_option linter.unusedSimpArgs false
set_option linter.unusedVariables false
/-- A row of words, and a number, as a result. -/
def ValRes (v : Value) (w w' : World) (x : List Int × Int) : Prop :=
  ∃ a c, v = .tuple #[.slice a x.1.length c, .int .i64 x.2] ∧ Fresh w w' [Row a x.1.length c 41 1 (u64s x.1)]
theorem ValRes.zero {w w' : World} (no : Int) (h : Ext w w') : ValRes (.tuple #[.slice none 0 0, .int .i64 no]) w w' ([], no) :=
  ⟨none, 0, rfl, by have := ((St.init w).ext h).nilRow 41 1; exact this.out (List.Sublist.refl _)⟩
def rowOf (W r : Int) (ws : List Int) : List Int := (ws.drop (r * W).toNat).take W.toNat
def getM (W R r : Int) (ws : List Int) : List Int × Int := if colB W R ws.length = true then if 0 ≤ r ∧ r < R then (rowOf W r ws, 0) else ([], 2) else ([], 180)
theorem splice_all {cs vs : List Value} (h : cs.length = vs.length) : splice cs 0 vs = vs := by
  simp only [splice, List.take_zero, List.nil_append, Nat.zero_add, ← h, List.drop_length, List.append_nil]
theorem WR.srcAt {w : World} {a : Option Addr} {n c off m : Nat} {ws : List Int} (h : WR w a n c ws) {a' : Option Addr} (ha : a' = none → m = 0) (hm : off + m ≤ n) (ha' : 0 < m → a' = a.map (·.add off)) : Src w a' m 1 (u64s ((ws.drop off).take m)) := by
  have hl := h.len
  have e : u64s ((ws.drop off).take m) = ((u64s ws).drop off).take m := by simp [u64s, List.map_take, List.map_drop]
  have hsrc := h.2.2.2.srcInt
  refine ⟨by simp only [u64s, List.length_map, List.length_take, List.length_drop]; omega, ha, u64s_one _, fun b o hb j u hj => ?_⟩
  rw [e, List.getElem?_take] at hj
  split at hj
  · rename_i hjm
    rw [List.getElem?_drop] at hj
    obtain ⟨b', o', rfl⟩ := h.2.2.2.addr (by omega)
    have := ha' (by omega)
    rw [hb] at this
    simp only [Option.map_some, add_eq, Option.some.injEq, Addr.mk.injEq] at this
    obtain ⟨rfl, rfl, -⟩ := this
    have hc := hsrc.2.2.2 _ _ rfl _ _ hj
    rw [← Nat.add_assoc] at hc
    exact hc
  · cases hj
theorem get_r (w : World) (W R r : Int) (a : Option Addr) (n c : Nat) (ws : List Int) (h : WR w a n c ws) :
    Ret Try.prog 14 #[.agg #[.int .i64 W, .int .i64 R, .slice a n c], .int .i64 r] w fun v w' => ValRes v w w' (getM W R r ws) := by
  refine Ret_of (l := [_, _]) Try.func14 rfl Try.ntmps14 (by simp) ?_
  have hs := St.init w
  have hl := h.len
  subst hl
  unfold getM
  by_cases hB : colB W R ws.length = true
  · rw [if_pos hB]
    have hw := colB_W hB
    by_cases hr : 0 ≤ r ∧ r < R
    · rw [if_pos hr]
      have hb := row_bd hB hr
      repeat' (first
        | ((apply al_none; refine JL_o (OpR_callF en28 rfl (check_r _ _ _ _ _ _)) rfl rfl ?_; rintro _ _ ⟨hE, rfl⟩; have hs := hs.ext hE; rw [if_pos hB]))
        | ((apply al_none; refine JL_o (OpR_callF en35 rfl (at_r _ W R r a ws.length c (by omega) (by omega) (by omega) (by omega) h.1)) rfl rfl ?_; rintro _ _ ⟨hE, rfl⟩; have hs := hs.ext hE))
        | ((apply al_none; refine JL_o (by apply as_makeSlice; exact OpR_makeI hs rfl rfl (by omega) (by omega) (by omega)) rfl rfl ?_; rintro _ _ ⟨b, rfl, hb, hs, hE⟩; have hs := hs.toRow 0 W.toNat W.toNat 1 (Nat.le_refl _) (by unfold maxLen; omega) (by simp [madeCells]) rfl))
        | ((apply al_none; refine JL_o (by apply as_b_copy; exact OpR_copyRow (off := 0) (vs := u64s (rowOf W r ws)) (a := some ⟨b, 0, none⟩) (n := W.toNat) (c := W.toNat) hs rfl rfl (fun _ => rfl) (by omega) (by rw [Nat.min_self]; exact (h.st hs).srcAt (by intro h2; by_cases hW : W = 0; omega; rw [if_neg hW] at h2; cases a; have := h.2.2.1 rfl; have := h.1; omega; cases h2) (by omega) (fun _ => if_neg (by omega))) (fun h0 => by have hpl := h.2.2.2.plain (by omega); split; exact hpl; exact hpl.add _)) rfl rfl ?_; rintro _ _ ⟨rfl, hs, hF⟩))
        | (apply JL_nil)
        | ((first | (apply JL_pure) | (apply JL_pure_on; exact rfl; (first | assumption | exact rfl | exact decide_eq_true (by first | assumption | omega) | exact decide_eq_false (by first | assumption | omega)))); (first
      | (apply as_move; first | exact OpR_move rfl is_rfl)
      | (apply as_assign; first | exact OpR_assign rfl is_rfl)
      | (apply as_fieldAddr; first | exact OpR_fieldAddr0 rfl rfl is_rfl | exact OpR_fieldAddr rfl rfl is_rfl)
      | (apply as_load; first | exact OpR_load' hs rfl rfl is_rfl | exact OpR_load_agg' hs rfl is_rfl)
      | (apply as_binOp; first | exact OpR_ibin rfl rfl rfl is_rfl | exact OpR_beq rfl rfl is_rfl | exact OpR_bne rfl rfl is_rfl | exact OpR_eqNil rfl rfl is_rfl | exact OpR_neNil rfl rfl is_rfl)
      | (apply as_pick; first | exact OpR_pick_t rfl (by first | assumption | rfl | exact decide_eq_true (by first | assumption | omega) | exact decide_eq_false (by first | assumption | omega)) rfl is_rfl | exact OpR_pick_f rfl (by first | assumption | rfl | exact decide_eq_true (by first | assumption | omega) | exact decide_eq_false (by first | assumption | omega)) rfl is_rfl)); first | (exact rfl; exact rfl) | exact rfl)
        | (apply J_seq)
        | (apply J_region)
        | (apply J_skip)
        | (apply al_none; (first | (refine JL_o (by apply as_box; exact OpR_box' hs rfl) rfl rfl ?_) | (refine JL_o (by apply as_alloc; exact OpR_alloc' hs) rfl rfl ?_)); rintro _ _ ⟨_, rfl, hb, hs, hE⟩)
        | (apply al_guard; first
    | (refine JL_no rfl (by first | assumption | rfl | exact decide_eq_true (by first | assumption | omega) | exact decide_eq_false (by first | assumption | omega)) rfl ?_)
    | (fail_if_success (apply JL_o_on rfl (by first | assumption | rfl | exact decide_eq_true (by first | assumption | omega) | exact decide_eq_false (by first | assumption | omega)))); first | (refine JL_split_dec rfl (fun _ => ?_) (fun _ => ?_)) | (refine JL_split rfl (fun _ => ?_) (fun _ => ?_)))
        | (apply aj_cond; first | refine J_dec_t rfl (by first | assumption | omega) ?_ | refine J_dec_f rfl (by first | assumption | omega) ?_ | refine J_cond_t rfl (by first | assumption | rfl | exact decide_eq_true (by first | assumption | omega) | exact decide_eq_false (by first | assumption | omega)) ?_ | refine J_cond_f rfl (by first | assumption | rfl | exact decide_eq_true (by first | assumption | omega) | exact decide_eq_false (by first | assumption | omega)) ?_ | (refine J_cond_dec rfl (fun _ => ?_) (fun _ => ?_)) | (refine J_cond rfl (fun _ => ?_) (fun _ => ?_))))
      have hlr : (rowOf W r ws).length = W.toNat := by simp [rowOf]; omega
      rw [splice_all (by simp [hlr, madeCells])] at hs
      refine J_leave Try.func14 rfl (.tmp rfl (.tmp rfl .nil)) ⟨some ⟨b, 0, none⟩, W.toNat, ?_, ?_⟩
      · rw [hlr]; rfl
      · rw [hlr]; exact hs.out (.cons_cons _ (.cons _ .slnil))
    · rw [if_neg hr]
      repeat' (first
        | ((apply al_none; refine JL_o (OpR_callF en28 rfl (check_r _ _ _ _ _ _)) rfl rfl ?_; rintro _ _ ⟨hE, rfl⟩; have hs := hs.ext hE; rw [if_pos hB]))
        | (apply JL_nil)
        | ((first | (apply JL_pure) | (apply JL_pure_on; exact rfl; (first | assumption | exact rfl | exact decide_eq_true (by first | assumption | omega) | exact decide_eq_false (by first | assumption | omega)))); (first
      | (apply as_move; first | exact OpR_move rfl is_rfl)
      | (apply as_assign; first | exact OpR_assign rfl is_rfl)
      | (apply as_fieldAddr; first | exact OpR_fieldAddr0 rfl rfl is_rfl | exact OpR_fieldAddr rfl rfl is_rfl)
      | (apply as_load; first | exact OpR_load' hs rfl rfl is_rfl | exact OpR_load_agg' hs rfl is_rfl)
      | (apply as_binOp; first | exact OpR_ibin rfl rfl rfl is_rfl | exact OpR_beq rfl rfl is_rfl | exact OpR_bne rfl rfl is_rfl | exact OpR_eqNil rfl rfl is_rfl | exact OpR_neNil rfl rfl is_rfl)
      | (apply as_pick; first | exact OpR_pick_t rfl (by first | assumption | rfl | exact decide_eq_true (by first | assumption | omega) | exact decide_eq_false (by first | assumption | omega)) rfl is_rfl | exact OpR_pick_f rfl (by first | assumption | rfl | exact decide_eq_true (by first | assumption | omega) | exact decide_eq_false (by first | assumption | omega)) rfl is_rfl)); first | (exact rfl; exact rfl) | exact rfl)
        | (apply J_seq)
        | (apply J_region)
        | (apply J_skip)
        | (apply al_none; (first | (refine JL_o (by apply as_box; exact OpR_box' hs rfl) rfl rfl ?_) | (refine JL_o (by apply as_alloc; exact OpR_alloc' hs) rfl rfl ?_)); rintro _ _ ⟨_, rfl, hb, hs, hE⟩)
        | (apply al_guard; first
    | (refine JL_no rfl (by first | assumption | rfl | exact decide_eq_true (by first | assumption | omega) | exact decide_eq_false (by first | assumption | omega)) rfl ?_)
    | (fail_if_success (apply JL_o_on rfl (by first | assumption | rfl | exact decide_eq_true (by first | assumption | omega) | exact decide_eq_false (by first | assumption | omega)))); first | (refine JL_split_dec rfl (fun _ => ?_) (fun _ => ?_)) | (refine JL_split rfl (fun _ => ?_) (fun _ => ?_)))
        | (apply aj_cond; first | refine J_dec_t rfl (by first | assumption | omega) ?_ | refine J_dec_f rfl (by first | assumption | omega) ?_ | refine J_cond_t rfl (by first | assumption | rfl | exact decide_eq_true (by first | assumption | omega) | exact decide_eq_false (by first | assumption | omega)) ?_ | refine J_cond_f rfl (by first | assumption | rfl | exact decide_eq_true (by first | assumption | omega) | exact decide_eq_false (by first | assumption | omega)) ?_ | (refine J_cond_dec rfl (fun _ => ?_) (fun _ => ?_)) | (refine J_cond rfl (fun _ => ?_) (fun _ => ?_))))
      all_goals first | (refine J_leave Try.func14 rfl (.tmp rfl (.tmp rfl .nil)) (ValRes.zero _ hs.frm.ext)) | (exfalso; omega)
  · rw [if_neg hB]
    repeat' (first
      | ((apply al_none; refine JL_o (OpR_callF en28 rfl (check_r _ _ _ _ _ _)) rfl rfl ?_; rintro _ _ ⟨hE, rfl⟩; have hs := hs.ext hE; rw [if_neg hB]))
      | (apply JL_nil)
      | ((first | (apply JL_pure) | (apply JL_pure_on; exact rfl; (first | assumption | exact rfl | exact decide_eq_true (by first | assumption | omega) | exact decide_eq_false (by first | assumption | omega)))); (first
      | (apply as_move; first | exact OpR_move rfl is_rfl)
      | (apply as_assign; first | exact OpR_assign rfl is_rfl)
      | (apply as_fieldAddr; first | exact OpR_fieldAddr0 rfl rfl is_rfl | exact OpR_fieldAddr rfl rfl is_rfl)
      | (apply as_load; first | exact OpR_load' hs rfl rfl is_rfl | exact OpR_load_agg' hs rfl is_rfl)
      | (apply as_binOp; first | exact OpR_ibin rfl rfl rfl is_rfl | exact OpR_beq rfl rfl is_rfl | exact OpR_bne rfl rfl is_rfl | exact OpR_eqNil rfl rfl is_rfl | exact OpR_neNil rfl rfl is_rfl)
      | (apply as_pick; first | exact OpR_pick_t rfl (by first | assumption | rfl | exact decide_eq_true (by first | assumption | omega) | exact decide_eq_false (by first | assumption | omega)) rfl is_rfl | exact OpR_pick_f rfl (by first | assumption | rfl | exact decide_eq_true (by first | assumption | omega) | exact decide_eq_false (by first | assumption | omega)) rfl is_rfl)); first | (exact rfl; exact rfl) | exact rfl)
      | (apply J_seq)
      | (apply J_region)
      | (apply J_skip)
      | (apply al_none; (first | (refine JL_o (by apply as_box; exact OpR_box' hs rfl) rfl rfl ?_) | (refine JL_o (by apply as_alloc; exact OpR_alloc' hs) rfl rfl ?_)); rintro _ _ ⟨_, rfl, hb, hs, hE⟩)
      | (apply al_guard; first
    | (refine JL_no rfl (by first | assumption | rfl | exact decide_eq_true (by first | assumption | omega) | exact decide_eq_false (by first | assumption | omega)) rfl ?_)
    | (fail_if_success (apply JL_o_on rfl (by first | assumption | rfl | exact decide_eq_true (by first | assumption | omega) | exact decide_eq_false (by first | assumption | omega)))); first | (refine JL_split_dec rfl (fun _ => ?_) (fun _ => ?_)) | (refine JL_split rfl (fun _ => ?_) (fun _ => ?_)))
      | (apply aj_cond; first | refine J_dec_t rfl (by first | assumption | omega) ?_ | refine J_dec_f rfl (by first | assumption | omega) ?_ | refine J_cond_t rfl (by first | assumption | rfl | exact decide_eq_true (by first | assumption | omega) | exact decide_eq_false (by first | assumption | omega)) ?_ | refine J_cond_f rfl (by first | assumption | rfl | exact decide_eq_true (by first | assumption | omega) | exact decide_eq_false (by first | assumption | omega)) ?_ | (refine J_cond_dec rfl (fun _ => ?_) (fun _ => ?_)) | (refine J_cond rfl (fun _ => ?_) (fun _ => ?_))))
    refine J_leave Try.func14 rfl (.tmp rfl (.tmp rfl .nil)) (ValRes.zero _ hs.frm.ext)
/-- Values. -/
def VR (w : World) (a : Option Addr) (n : Nat) (vss : List (List Int)) : Prop := SlR (tSl (tInt .u64)) All w a n vss
theorem VR.el {w : World} {a : Option Addr} {n : Nat} {vss : List (List Int)} (h : VR w a n vss) {i : Nat} {vs : List Int} (hi : vss[i]? = some vs) : ∃ av nv cv, WR w av nv cv vs ∧ ∀ b o, a = some ⟨b, o, none⟩ → w.cell? ⟨b, o + i * 1, none⟩ = some (.slice av nv cv) := by
  obtain ⟨es, ⟨av, nv, cv, rfl, h1, h2, h3, hs⟩, hc⟩ := SlR.el h i vs hi
  exact ⟨av, nv, cv, ⟨h1, h2, h3, hs⟩, fun b o ha => hc b o ha 0 _ rfl⟩
/-- A test of values. -/
def PredOk (fv : Value) (w0 : World) (p : List Int → Bool) : Prop :=
  ∀ w av nv cv vs, Ext w0 w → WR w av nv cv vs → RetV Try.prog fv #[.slice av nv cv] w (fun v w' => v = .bool (p vs) ∧ Ext w w')
theorem push1_ok (w0 : World) (W R : Int) (b : Nat) (a : Option Addr) (n c e : Nat) (hb : w0.heap[b]? = some (.cells #[.int .i64 W, .int .i64 R, .slice a n c] e (0, 0))) :
    PredOk (.func (.func 40) #[] #[ptr b]) w0 (fun vs => decide ((vs.length : Int) ≠ W)) := by
  intro w av nv cv vs hE0 hv
  refine RetV.closure (avs := [_]) (cap := [_]) en40 ?_
  refine Ret_of (l := [_, _]) Try.func40 rfl Try.ntmps40 (by simp) ?_
  have hs := St.init w
  have hl := hv.len
  have hc : w.cell? ⟨b, 0, none⟩ = some (.int .i64 W) := by
    have h0 : w0.cell? ⟨b, 0, none⟩ = some (.int .i64 W) := cell_blk hb rfl
    exact ((St.init w0).ext hE0).old_cell h0
  repeat' (first
    | (apply JL_nil)
    | ((first | (apply JL_pure)); (first
      | (apply as_load; exact OpR_load_cell (hs.old_cell hc) rfl is_rfl)
      | (apply as_move; first | exact OpR_move rfl is_rfl)
      | (apply as_assign; first | exact OpR_assign rfl is_rfl)
      | (apply as_fieldAddr; first | exact OpR_fieldAddr0 rfl rfl is_rfl | exact OpR_fieldAddr rfl rfl is_rfl)
      | (apply as_load; first | exact OpR_load' hs rfl rfl is_rfl | exact OpR_load_agg' hs rfl is_rfl)
      | (apply as_binOp; first | exact OpR_ibin rfl rfl rfl is_rfl | exact OpR_beq rfl rfl is_rfl | exact OpR_bne rfl rfl is_rfl | exact OpR_eqNil rfl rfl is_rfl | exact OpR_neNil rfl rfl is_rfl)
      | (apply as_b_len; first | exact OpR_len rfl is_rfl | exact OpR_len_str rfl is_rfl | exact OpR_len_arr rfl is_rfl)); first | (exact rfl; exact rfl) | exact rfl)
    | (apply J_seq)
    | (apply J_region)
    | (apply aj_cond; first | refine J_dec_t rfl (by first | assumption | omega) ?_ | refine J_dec_f rfl (by first | assumption | omega) ?_ | refine J_cond_t rfl (by first | assumption | rfl | exact decide_eq_true (by first | assumption | omega) | exact decide_eq_false (by first | assumption | omega)) ?_ | refine J_cond_f rfl (by first | assumption | rfl | exact decide_eq_true (by first | assumption | omega) | exact decide_eq_false (by first | assumption | omega)) ?_ | (refine J_cond_dec rfl (fun _ => ?_) (fun _ => ?_)) | (refine J_cond rfl (fun _ => ?_) (fun _ => ?_))))
  refine J_leave Try.func40 rfl (.tmp rfl .nil) ⟨?_, hs.frm.ext⟩
  simp only [hl]; rfl
/-- slices.IndexFunc. -/
theorem indexFunc_r (w : World) (a : Option Addr) (n c : Nat) (vss : List (List Int)) (fv : Value) (p : List Int → Bool) (h : VR w a n vss) (hm : n ≤ maxLen) (hp : PredOk fv w p) :
    Ret Try.prog 48 #[.slice a n c, fv] w fun v w' => Ext w w' ∧ ∃ i : Int, v = .int .i64 i ∧ decide (0 ≤ i) = vss.any p := by
  refine Ret_of (l := [_, _]) Try.func48 rfl Try.ntmps48 (by simp) ?_
  have hs := St.init w
  have hl := SlR.len h
  have hm' : n ≤ 9223372036854775807 := by unfold maxLen at hm; omega
  repeat' (first
    | (apply JL_nil)
    | ((first | (apply JL_pure)); (first
      | (apply as_move; first | exact OpR_move rfl is_rfl)
      | (apply as_assign; first | exact OpR_assign rfl is_rfl)
      | (apply as_load; first | exact OpR_load' hs rfl rfl is_rfl | exact OpR_load_agg' hs rfl is_rfl)
      | (apply as_add; first | exact OpR_addn rfl rfl (by omega) (by first | (simp only [Int.reduceAdd]; exact rfl) | exact rfl) is_rfl | exact OpR_ibin rfl rfl rfl is_rfl)
      | (apply as_binOp; first | exact OpR_ibin rfl rfl rfl is_rfl | exact OpR_beq rfl rfl is_rfl | exact OpR_bne rfl rfl is_rfl | exact OpR_eqNil rfl rfl is_rfl | exact OpR_neNil rfl rfl is_rfl)
      | (apply as_b_len; first | exact OpR_len rfl is_rfl | exact OpR_len_str rfl is_rfl | exact OpR_len_arr rfl is_rfl)
      | (apply as_indexAddr; first | exact OpR_indexAddr rfl rfl (by omega) (by omega) is_rfl | exact OpR_indexAddr_arr' rfl rfl (by omega) (by omega) (by first | (simp only [Int.reduceToNat, Nat.reduceMul, Nat.reduceAdd]; exact rfl) | exact rfl) is_rfl)); first | (exact rfl; exact rfl) | exact rfl)
    | (apply J_seq)
    | (apply J_region)
    | (apply J_block)
    | (apply J_inBlock)
    | (apply aj_exit; refine J_exit rfl ?_)
    | (apply J_skip)
    | (apply aj_cond; first | refine J_dec_t rfl (by first | assumption | omega) ?_ | refine J_dec_f rfl (by first | assumption | omega) ?_ | refine J_cond_t rfl (by first | assumption | rfl | exact decide_eq_true (by first | assumption | omega) | exact decide_eq_false (by first | assumption | omega)) ?_ | refine J_cond_f rfl (by first | assumption | rfl | exact decide_eq_true (by first | assumption | omega) | exact decide_eq_false (by first | assumption | omega)) ?_ | (refine J_cond_dec rfl (fun _ => ?_) (fun _ => ?_)) | (refine J_cond rfl (fun _ => ?_) (fun _ => ?_))))
  refine J_loop (α := Nat) (fun k w' => St w NoF w' [] ∧ k ≤ n ∧ (vss.take k).any p = false) (fun k => [(0, .slice a n c), (1, fv), (7, .int .i64 n), (8, .int .i64 k)]) (fun k => n - k) 0 ⟨hs, by omega, rfl⟩ ⟨rfl, rfl, rfl, rfl, trivial⟩ ?_
  rintro k w' ⟨hs, hk, hj⟩ ih
  by_cases hlt : k < n
  · obtain ⟨b, o, rfl⟩ := SlR.addr h (by omega)
    have hx : vss[k]? = some vss[k] := List.getElem?_eq_getElem (by omega)
    obtain ⟨av, nv, cv, hv, hcell⟩ := VR.el h hx
    have hcell := hcell b o rfl
    have hany : (vss.take (k + 1)).any p = p vss[k] := by
      rw [List.take_succ_eq_append_getElem (by omega), List.any_append, hj]; simp
    repeat' (first
      | ((apply al_none; refine JL_o (OpR_callV rfl rfl (hp _ _ _ _ _ hs.frm.ext (hv.st hs))) rfl rfl ?_; rintro _ _ ⟨rfl, hE⟩; have hs := hs.ext hE))
      | (apply JL_nil)
      | ((first | (apply JL_pure)); (first
      | (apply as_load; exact OpR_load_cell (hs.old_cell hcell) rfl is_rfl)
      | (apply as_move; first | exact OpR_move rfl is_rfl)
      | (apply as_assign; first | exact OpR_assign rfl is_rfl)
      | (apply as_load; first | exact OpR_load' hs rfl rfl is_rfl | exact OpR_load_agg' hs rfl is_rfl)
      | (apply as_add; first | exact OpR_addn rfl rfl (by omega) (by first | (simp only [Int.reduceAdd]; exact rfl) | exact rfl) is_rfl | exact OpR_ibin rfl rfl rfl is_rfl)
      | (apply as_binOp; first | exact OpR_ibin rfl rfl rfl is_rfl | exact OpR_beq rfl rfl is_rfl | exact OpR_bne rfl rfl is_rfl | exact OpR_eqNil rfl rfl is_rfl | exact OpR_neNil rfl rfl is_rfl)
      | (apply as_b_len; first | exact OpR_len rfl is_rfl | exact OpR_len_str rfl is_rfl | exact OpR_len_arr rfl is_rfl)
      | (apply as_indexAddr; first | exact OpR_indexAddr rfl rfl (by omega) (by omega) is_rfl | exact OpR_indexAddr_arr' rfl rfl (by omega) (by omega) (by first | (simp only [Int.reduceToNat, Nat.reduceMul, Nat.reduceAdd]; exact rfl) | exact rfl) is_rfl)); first | (exact rfl; exact rfl) | exact rfl)
      | (apply J_seq)
      | (apply J_region)
      | (apply J_block)
      | (apply J_inBlock)
      | (apply aj_exit; refine J_exit rfl ?_)
      | (apply J_skip)
      | (apply aj_cond; first | refine J_dec_t rfl (by first | assumption | omega) ?_ | refine J_dec_f rfl (by first | assumption | omega) ?_ | refine J_cond_t rfl (by first | assumption | rfl | exact decide_eq_true (by first | assumption | omega) | exact decide_eq_false (by first | assumption | omega)) ?_ | refine J_cond_f rfl (by first | assumption | rfl | exact decide_eq_true (by first | assumption | omega) | exact decide_eq_false (by first | assumption | omega)) ?_ | (refine J_cond_dec rfl (fun _ => ?_) (fun _ => ?_)) | (refine J_cond rfl (fun _ => ?_) (fun _ => ?_))))
    · refine J_leave Try.func48 rfl (.tmp rfl .nil) ⟨hs.frm.ext, _, rfl, ?_⟩
      have hpt : p vss[k] = true := by assumption
      rw [eq_comm, decide_eq_true (by omega), List.any_eq_true]
      exact ⟨_, List.getElem_mem (by omega), hpt⟩
    · have hpf : p vss[k] = false := by assumption
      refine J.to (ih (k + 1) _ ⟨hs, by omega, by rw [hany]; exact hpf⟩ (by omega)) ⟨rfl, rfl, rfl, rfl, trivial⟩
  · have e : vss.take k = vss := List.take_of_length_le (by omega)
    rw [e] at hj
    repeat' (first
      | (apply JL_nil)
      | ((first | (apply JL_pure)); (first
      | (apply as_move; first | exact OpR_move rfl is_rfl)
      | (apply as_assign; first | exact OpR_assign rfl is_rfl)
      | (apply as_load; first | exact OpR_load' hs rfl rfl is_rfl | exact OpR_load_agg' hs rfl is_rfl)
      | (apply as_add; first | exact OpR_addn rfl rfl (by omega) (by first | (simp only [Int.reduceAdd]; exact rfl) | exact rfl) is_rfl | exact OpR_ibin rfl rfl rfl is_rfl)
      | (apply as_binOp; first | exact OpR_ibin rfl rfl rfl is_rfl | exact OpR_beq rfl rfl is_rfl | exact OpR_bne rfl rfl is_rfl | exact OpR_eqNil rfl rfl is_rfl | exact OpR_neNil rfl rfl is_rfl)
      | (apply as_b_len; first | exact OpR_len rfl is_rfl | exact OpR_len_str rfl is_rfl | exact OpR_len_arr rfl is_rfl)
      | (apply as_indexAddr; first | exact OpR_indexAddr rfl rfl (by omega) (by omega) is_rfl | exact OpR_indexAddr_arr' rfl rfl (by omega) (by omega) (by first | (simp only [Int.reduceToNat, Nat.reduceMul, Nat.reduceAdd]; exact rfl) | exact rfl) is_rfl)); first | (exact rfl; exact rfl) | exact rfl)
      | (apply J_seq)
      | (apply J_region)
      | (apply J_block)
      | (apply J_inBlock)
      | (apply aj_exit; refine J_exit rfl ?_)
      | (apply J_skip)
      | (apply aj_cond; first | refine J_dec_t rfl (by first | assumption | omega) ?_ | refine J_dec_f rfl (by first | assumption | omega) ?_ | refine J_cond_t rfl (by first | assumption | rfl | exact decide_eq_true (by first | assumption | omega) | exact decide_eq_false (by first | assumption | omega)) ?_ | refine J_cond_f rfl (by first | assumption | rfl | exact decide_eq_true (by first | assumption | omega) | exact decide_eq_false (by first | assumption | omega)) ?_ | (refine J_cond_dec rfl (fun _ => ?_) (fun _ => ?_)) | (refine J_cond rfl (fun _ => ?_) (fun _ => ?_))))
    refine J_leave Try.func48 rfl (.tmp rfl .nil) ⟨hs.frm.ext, _, rfl, ?_⟩
    rw [hj]; rfl
/-- slices.ContainsFunc. -/
theorem containsFunc_r (w : World) (a : Option Addr) (n c : Nat) (vss : List (List Int)) (fv : Value) (p : List Int → Bool) (h : VR w a n vss) (hm : n ≤ maxLen) (hp : PredOk fv w p) :
    Ret Try.prog 39 #[.slice a n c, fv] w fun v w' => Ext w w' ∧ v = .bool (vss.any p) := by
  refine Ret_of (l := [_, _]) Try.func39 rfl Try.ntmps39 (by simp) ?_
  have hs := St.init w
  repeat' (first
    | ((apply al_none; refine JL_o (OpR_callF en48 rfl (indexFunc_r _ _ _ _ _ _ _ h hm hp)) rfl rfl ?_; rintro _ _ ⟨hE, i, rfl, hi⟩; have hs := hs.ext hE))
    | (apply JL_nil)
    | ((first | (apply JL_pure)); (first
      | (apply as_move; first | exact OpR_move rfl is_rfl)
      | (apply as_assign; first | exact OpR_assign rfl is_rfl)
      | (apply as_binOp; first | exact OpR_ibin rfl rfl rfl is_rfl | exact OpR_beq rfl rfl is_rfl | exact OpR_bne rfl rfl is_rfl | exact OpR_eqNil rfl rfl is_rfl | exact OpR_neNil rfl rfl is_rfl)); first | (exact rfl; exact rfl) | exact rfl)
    | (apply J_seq)
    | (apply J_region)
    | (apply aj_cond; first | refine J_dec_t rfl (by first | assumption | omega) ?_ | refine J_dec_f rfl (by first | assumption | omega) ?_ | refine J_cond_t rfl (by first | assumption | rfl | exact decide_eq_true (by first | assumption | omega) | exact decide_eq_false (by first | assumption | omega)) ?_ | refine J_cond_f rfl (by first | assumption | rfl | exact decide_eq_true (by first | assumption | omega) | exact decide_eq_false (by first | assumption | omega)) ?_ | (refine J_cond_dec rfl (fun _ => ?_) (fun _ => ?_)) | (refine J_cond rfl (fun _ => ?_) (fun _ => ?_))))
  refine J_leave Try.func39 rfl (.tmp rfl .nil) ⟨hs.frm.ext, ?_⟩
  rw [← hi]; rfl
def pushM (W R : Int) (ws : List Int) (vss : List (List Int)) : Int × Int × List Int × Int :=
  if colB W R ws.length = true then if vss.any (fun vs => decide ((vs.length : Int) ≠ W)) then (0, 0, [], 140) else if R + vss.length > 1048578 then (0, 0, [], 6) else (W, R + vss.length, ws ++ vss.flatten, 0) else (0, 0, [], 180)
theorem flatten_len {W : Nat} : ∀ {vss : List (List Int)}, (∀ v ∈ vss, v.length = W) → vss.flatten.length = vss.length * W
  | [], _ => by simp
  | v :: l, h => by
    rw [List.flatten_cons, List.length_append, flatten_len (fun u hu => h u (List.mem_cons_of_mem _ hu)), h v List.mem_cons_self, List.length_cons, Nat.add_mul]; omega
theorem push_r (w : World) (W R : Int) (a al : Option Addr) (n c nl cl : Nat) (ws : List Int) (vss : List (List Int)) (h : WR w a n c ws) (hv : VR w al nl vss) (hm : nl ≤ 1000000) :
    Ret Try.prog 24 #[.agg #[.int .i64 W, .int .i64 R, .slice a n c], .slice al nl cl] w fun v w' => ColRes v w w' (pushM W R ws vss) := by
  refine Ret_of (l := [_, _]) Try.func24 rfl Try.ntmps24 (by simp) ?_
  have hs := St.init w
  have hl := h.len
  have hll := SlR.len hv
  subst hl
  unfold pushM
  have hm' : nl ≤ maxLen := by unfold maxLen; omega
  by_cases hB : colB W R ws.length = true
  · rw [if_pos hB]
    have hw := colB_W hB
    by_cases hany : vss.any (fun vs => decide ((vs.length : Int) ≠ W)) = true
    · rw [if_pos hany]
      repeat' (first
        | ((apply al_none; refine JL_o (OpR_callF en28 rfl (check_r _ _ _ _ _ _)) rfl rfl ?_; rintro _ _ ⟨hE, rfl⟩; have hs := hs.ext hE; rw [if_pos hB]))
        | ((apply al_none; refine JL_o (OpR_callF en39 rfl (containsFunc_r _ _ _ _ _ _ _ (SlR.st hv hs) hm' (push1_ok _ W R _ a _ c 24 hs.blk))) rfl rfl ?_; rintro _ _ ⟨hE, rfl⟩; have hs := hs.ext hE; rw [hany]))
        | (apply JL_nil)
        | ((first | (apply JL_pure)); (first
      | (apply as_move; first | exact OpR_move rfl is_rfl)
      | (apply as_assign; first | exact OpR_assign rfl is_rfl)
      | (apply as_fieldAddr; first | exact OpR_fieldAddr0 rfl rfl is_rfl | exact OpR_fieldAddr rfl rfl is_rfl)
      | (apply as_load; first | exact OpR_load' hs rfl rfl is_rfl | exact OpR_load_agg' hs rfl is_rfl)
      | (apply as_add; first | exact OpR_addn rfl rfl (by omega) (by first | (simp only [Int.reduceAdd]; exact rfl) | exact rfl) is_rfl | exact OpR_ibin rfl rfl rfl is_rfl)
      | (apply as_binOp; first | exact OpR_ibin rfl rfl rfl is_rfl | exact OpR_beq rfl rfl is_rfl | exact OpR_bne rfl rfl is_rfl | exact OpR_eqNil rfl rfl is_rfl | exact OpR_neNil rfl rfl is_rfl)
      | (apply as_b_len; first | exact OpR_len rfl is_rfl | exact OpR_len_str rfl is_rfl | exact OpR_len_arr rfl is_rfl)
      | (apply as_makeFunc; first | exact OpR_func rfl is_rfl)
      | (apply as_indexAddr; first | exact OpR_indexAddr rfl rfl (by omega) (by omega) is_rfl | exact OpR_indexAddr_arr' rfl rfl (by omega) (by omega) (by first | (simp only [Int.reduceToNat, Nat.reduceMul, Nat.reduceAdd]; exact rfl) | exact rfl) is_rfl)
      | (apply as_build; first | exact OpR_build rfl (by (simp only [bld, placesOf, splice, Value.cells, List.take_succ_cons, List.take_zero, List.drop_succ_cons, List.drop_zero, List.cons_append, List.nil_append, List.length_cons, List.length_nil, List.getElem?_cons_zero, List.getElem?_cons_succ, Option.map_some, List.append_nil, Nat.reduceAdd, Nat.reduceMul, Nat.zero_add, Nat.reduceLeDiff, and_self, if_true, List.toList_toArray, Nat.le_refl, Nat.zero_mul, Nat.one_mul]; first | done | rfl)) is_rfl | exact OpR_build_arr rfl (by (simp only [bld, placesOf, splice, Value.cells, List.take_succ_cons, List.take_zero, List.drop_succ_cons, List.drop_zero, List.cons_append, List.nil_append, List.length_cons, List.length_nil, List.getElem?_cons_zero, List.getElem?_cons_succ, Option.map_some, List.append_nil, Nat.reduceAdd, Nat.reduceMul, Nat.zero_add, Nat.reduceLeDiff, and_self, if_true, List.toList_toArray, Nat.le_refl, Nat.zero_mul, Nat.one_mul]; first | done | rfl)) is_rfl)); first | (exact rfl; exact rfl) | exact rfl)
        | (apply J_seq)
        | (apply J_region)
        | (apply J_block)
        | (apply J_inBlock)
        | (apply aj_exit; refine J_exit rfl ?_)
        | (apply J_skip)
        | (apply al_none; (first | (refine JL_o (by apply as_box; exact OpR_box' hs rfl) rfl rfl ?_) | (refine JL_o (by apply as_alloc; exact OpR_alloc' hs) rfl rfl ?_)); rintro _ _ ⟨_, rfl, hb, hs, hE⟩)
        | (apply al_unit; refine JL_u (by apply as_store; exact OpR_store' hs rfl rfl rfl) rfl ?_; rintro _ _ ⟨hs, hF⟩)
        | (apply aj_cond; first | refine J_dec_t rfl (by first | assumption | omega) ?_ | refine J_dec_f rfl (by first | assumption | omega) ?_ | refine J_cond_t rfl (by first | assumption | rfl | exact decide_eq_true (by first | assumption | omega) | exact decide_eq_false (by first | assumption | omega)) ?_ | refine J_cond_f rfl (by first | assumption | rfl | exact decide_eq_true (by first | assumption | omega) | exact decide_eq_false (by first | assumption | omega)) ?_ | (refine J_cond_dec rfl (fun _ => ?_) (fun _ => ?_)) | (refine J_cond rfl (fun _ => ?_) (fun _ => ?_))))
      refine J_leave Try.func24 rfl (.agg' hs rfl rfl (.tmp rfl .nil)) (ColRes.zero _ hs.frm.ext)
    · rw [if_neg hany]
      have hany' : vss.any (fun vs => decide ((vs.length : Int) ≠ W)) = false := by simpa using hany
      by_cases hf : R + vss.length > 1048578
      · rw [if_pos hf]
        repeat' (first
          | ((apply al_none; refine JL_o (OpR_callF en28 rfl (check_r _ _ _ _ _ _)) rfl rfl ?_; rintro _ _ ⟨hE, rfl⟩; have hs := hs.ext hE; rw [if_pos hB]))
          | ((apply al_none; refine JL_o (OpR_callF en39 rfl (containsFunc_r _ _ _ _ _ _ _ (SlR.st hv hs) hm' (push1_ok _ W R _ a _ c 24 hs.blk))) rfl rfl ?_; rintro _ _ ⟨hE, rfl⟩; have hs := hs.ext hE; rw [hany']))
          | (apply JL_nil)
          | ((first | (apply JL_pure)); (first
      | (apply as_move; first | exact OpR_move rfl is_rfl)
      | (apply as_assign; first | exact OpR_assign rfl is_rfl)
      | (apply as_fieldAddr; first | exact OpR_fieldAddr0 rfl rfl is_rfl | exact OpR_fieldAddr rfl rfl is_rfl)
      | (apply as_load; first | exact OpR_load' hs rfl rfl is_rfl | exact OpR_load_agg' hs rfl is_rfl)
      | (apply as_add; first | exact OpR_addn rfl rfl (by omega) (by first | (simp only [Int.reduceAdd]; exact rfl) | exact rfl) is_rfl | exact OpR_ibin rfl rfl rfl is_rfl)
      | (apply as_binOp; first | exact OpR_ibin rfl rfl rfl is_rfl | exact OpR_beq rfl rfl is_rfl | exact OpR_bne rfl rfl is_rfl | exact OpR_eqNil rfl rfl is_rfl | exact OpR_neNil rfl rfl is_rfl)
      | (apply as_b_len; first | exact OpR_len rfl is_rfl | exact OpR_len_str rfl is_rfl | exact OpR_len_arr rfl is_rfl)
      | (apply as_makeFunc; first | exact OpR_func rfl is_rfl)
      | (apply as_indexAddr; first | exact OpR_indexAddr rfl rfl (by omega) (by omega) is_rfl | exact OpR_indexAddr_arr' rfl rfl (by omega) (by omega) (by first | (simp only [Int.reduceToNat, Nat.reduceMul, Nat.reduceAdd]; exact rfl) | exact rfl) is_rfl)
      | (apply as_build; first | exact OpR_build rfl (by (simp only [bld, placesOf, splice, Value.cells, List.take_succ_cons, List.take_zero, List.drop_succ_cons, List.drop_zero, List.cons_append, List.nil_append, List.length_cons, List.length_nil, List.getElem?_cons_zero, List.getElem?_cons_succ, Option.map_some, List.append_nil, Nat.reduceAdd, Nat.reduceMul, Nat.zero_add, Nat.reduceLeDiff, and_self, if_true, List.toList_toArray, Nat.le_refl, Nat.zero_mul, Nat.one_mul]; first | done | rfl)) is_rfl | exact OpR_build_arr rfl (by (simp only [bld, placesOf, splice, Value.cells, List.take_succ_cons, List.take_zero, List.drop_succ_cons, List.drop_zero, List.cons_append, List.nil_append, List.length_cons, List.length_nil, List.getElem?_cons_zero, List.getElem?_cons_succ, Option.map_some, List.append_nil, Nat.reduceAdd, Nat.reduceMul, Nat.zero_add, Nat.reduceLeDiff, and_self, if_true, List.toList_toArray, Nat.le_refl, Nat.zero_mul, Nat.one_mul]; first | done | rfl)) is_rfl)); first | (exact rfl; exact rfl) | exact rfl)
          | (apply J_seq)
          | (apply J_region)
          | (apply J_block)
          | (apply J_inBlock)
          | (apply aj_exit; refine J_exit rfl ?_)
          | (apply J_skip)
          | (apply al_none; (first | (refine JL_o (by apply as_box; exact OpR_box' hs rfl) rfl rfl ?_) | (refine JL_o (by apply as_alloc; exact OpR_alloc' hs) rfl rfl ?_)); rintro _ _ ⟨_, rfl, hb, hs, hE⟩)
          | (apply al_unit; refine JL_u (by apply as_store; exact OpR_store' hs rfl rfl rfl) rfl ?_; rintro _ _ ⟨hs, hF⟩)
          | (apply aj_cond; first | refine J_dec_t rfl (by first | assumption | omega) ?_ | refine J_dec_f rfl (by first | assumption | omega) ?_ | refine J_cond_t rfl (by first | assumption | rfl | exact decide_eq_true (by first | assumption | omega) | exact decide_eq_false (by first | assumption | omega)) ?_ | refine J_cond_f rfl (by first | assumption | rfl | exact decide_eq_true (by first | assumption | omega) | exact decide_eq_false (by first | assumption | omega)) ?_ | (refine J_cond_dec rfl (fun _ => ?_) (fun _ => ?_)) | (refine J_cond rfl (fun _ => ?_) (fun _ => ?_))))
        refine J_leave Try.func24 rfl (.agg' hs rfl rfl (.tmp rfl .nil)) (ColRes.zero _ hs.frm.ext)
      · rw [if_neg hf]
        have hfl : [ws].flatten = ws := by simp
        have hW : ∀ v ∈ vss, v.length = W.toNat := by
          intro v hv'
          have := List.any_eq_false.1 hany' v hv'
          simp at this
          omega
        repeat' (first
          | ((apply al_none; refine JL_o (by apply as_box; exact OpR_box' hs rfl) rfl rfl ?_; rintro _ _ ⟨b2, rfl, hb2, hs, hE⟩))
          | ((apply al_none; refine JL_o (by apply as_alloc; exact OpR_alloc' hs) rfl rfl ?_; rintro _ _ ⟨b4, rfl, hb4, hs, hE⟩))
          | ((apply al_none; refine JL_o (OpR_callF en28 rfl (check_r _ _ _ _ _ _)) rfl rfl ?_; rintro _ _ ⟨hE, rfl⟩; have hs := hs.ext hE; rw [if_pos hB]))
          | ((apply al_none; refine JL_o (OpR_callF en39 rfl (containsFunc_r _ _ _ _ _ _ _ (SlR.st hv hs) hm' (push1_ok _ W R _ a _ c 24 hs.blk))) rfl rfl ?_; rintro _ _ ⟨hE, rfl⟩; have hs := hs.ext hE; rw [hany']))
          | ((apply al_none; refine JL_o (by apply as_buildSlice; exact OpR_buildSlice hs rfl (by omega) rfl) rfl rfl ?_; rintro _ _ ⟨_, rfl, hb, hs, hE⟩))
          | ((apply al_none; refine JL_o (OpR_callF en41 rfl (joined_r _ _ _ _ [ws] All (slr_blk1 (hs.blk) h.1 h.2.1 h.2.2.1 (h.st hs).2.2.2) (by omega) (by rw [hfl]; omega))) rfl rfl ?_; rintro _ _ ⟨a2, c2, rfl, hf⟩; rw [hfl] at hf; have hs := (hs.fresh hf).sub (M := [_, _, _]) (.cons_cons _ (.cons _ (.cons_cons _ (.cons_cons _ .slnil)))); rw [hfl]))
          | (apply JL_nil)
          | ((first | (apply JL_pure)); (first
      | (apply as_move; first | exact OpR_move rfl is_rfl)
      | (apply as_assign; first | exact OpR_assign rfl is_rfl)
      | (apply as_fieldAddr; first | exact OpR_fieldAddr0 rfl rfl is_rfl | exact OpR_fieldAddr rfl rfl is_rfl)
      | (apply as_load; first | exact OpR_load' hs rfl rfl is_rfl | exact OpR_load_agg' hs rfl is_rfl)
      | (apply as_add; first | exact OpR_addn rfl rfl (by omega) (by first | (simp only [Int.reduceAdd]; exact rfl) | exact rfl) is_rfl | exact OpR_ibin rfl rfl rfl is_rfl)
      | (apply as_binOp; first | exact OpR_ibin rfl rfl rfl is_rfl | exact OpR_beq rfl rfl is_rfl | exact OpR_bne rfl rfl is_rfl | exact OpR_eqNil rfl rfl is_rfl | exact OpR_neNil rfl rfl is_rfl)
      | (apply as_b_len; first | exact OpR_len rfl is_rfl | exact OpR_len_str rfl is_rfl | exact OpR_len_arr rfl is_rfl)
      | (apply as_makeFunc; first | exact OpR_func rfl is_rfl)
      | (apply as_indexAddr; first | exact OpR_indexAddr rfl rfl (by omega) (by omega) is_rfl | exact OpR_indexAddr_arr' rfl rfl (by omega) (by omega) (by first | (simp only [Int.reduceToNat, Nat.reduceMul, Nat.reduceAdd]; exact rfl) | exact rfl) is_rfl)
      | (apply as_build; first | exact OpR_build rfl (by (simp only [bld, placesOf, splice, Value.cells, List.take_succ_cons, List.take_zero, List.drop_succ_cons, List.drop_zero, List.cons_append, List.nil_append, List.length_cons, List.length_nil, List.getElem?_cons_zero, List.getElem?_cons_succ, Option.map_some, List.append_nil, Nat.reduceAdd, Nat.reduceMul, Nat.zero_add, Nat.reduceLeDiff, and_self, if_true, List.toList_toArray, Nat.le_refl, Nat.zero_mul, Nat.one_mul]; first | done | rfl)) is_rfl | exact OpR_build_arr rfl (by (simp only [bld, placesOf, splice, Value.cells, List.take_succ_cons, List.take_zero, List.drop_succ_cons, List.drop_zero, List.cons_append, List.nil_append, List.length_cons, List.length_nil, List.getElem?_cons_zero, List.getElem?_cons_succ, Option.map_some, List.append_nil, Nat.reduceAdd, Nat.reduceMul, Nat.zero_add, Nat.reduceLeDiff, and_self, if_true, List.toList_toArray, Nat.le_refl, Nat.zero_mul, Nat.one_mul]; first | done | rfl)) is_rfl)); first | (exact rfl; exact rfl) | exact rfl)
          | (apply J_seq)
          | (apply J_region)
          | (apply J_block)
          | (apply J_inBlock)
          | (apply aj_exit; refine J_exit rfl ?_)
          | (apply J_skip)
          | (apply al_none; (first | (refine JL_o (by apply as_box; exact OpR_box' hs rfl) rfl rfl ?_) | (refine JL_o (by apply as_alloc; exact OpR_alloc' hs) rfl rfl ?_)); rintro _ _ ⟨_, rfl, hb, hs, hE⟩)
          | (apply al_unit; refine JL_u (by apply as_store; exact OpR_store' hs rfl rfl rfl) rfl ?_; rintro _ _ ⟨hs, hF⟩)
          | (apply aj_cond; first | refine J_dec_t rfl (by first | assumption | omega) ?_ | refine J_dec_f rfl (by first | assumption | omega) ?_ | refine J_cond_t rfl (by first | assumption | rfl | exact decide_eq_true (by first | assumption | omega) | exact decide_eq_false (by first | assumption | omega)) ?_ | refine J_cond_f rfl (by first | assumption | rfl | exact decide_eq_true (by first | assumption | omega) | exact decide_eq_false (by first | assumption | omega)) ?_ | (refine J_cond_dec rfl (fun _ => ?_) (fun _ => ?_)) | (refine J_cond rfl (fun _ => ?_) (fun _ => ?_))))
        refine J_loop (α := Nat × Option Addr × Nat) (fun g w' => St w NoF w' [Row g.2.1 (ws ++ (vss.take g.1).flatten).length g.2.2 41 1 (u64s (ws ++ (vss.take g.1).flatten)), Blk b4 (.cells #[.int .i64 0, .int .i64 0, .slice none 0 0] 24 (0, 0)), Blk b2 (.cells #[.int .i64 W, .int .i64 R, .slice a ws.length c] 24 (0, 0))] ∧ g.1 ≤ nl)
          (fun g => [(1, .slice al nl cl), (2, ptr b2), (4, ptr b4), (7, .slice g.2.1 (ws ++ (vss.take g.1).flatten).length g.2.2), (31, .slice al nl cl), (32, .int .i64 nl), (33, .int .i64 g.1)]) (fun g => nl - g.1) (0, a2, c2) ⟨by simpa using hs, by omega⟩ ⟨rfl, rfl, rfl, by simp; rfl, rfl, rfl, rfl, trivial⟩ ?_
        rintro ⟨k, a', c'⟩ w' ⟨hs, hk⟩ ih
        dsimp only at hs hk ih ⊢
        have hle : (vss.take k).flatten.length = k * W.toNat := by
          rw [flatten_len (fun v hv' => hW v (List.mem_of_mem_take hv')), List.length_take, Nat.min_eq_left (by omega)]
        have hkW : k * W.toNat ≤ 1048578 * 4 := Nat.mul_le_mul (by omega) (by omega)
        by_cases hlt : k < nl
        · obtain ⟨b, o, rfl⟩ := SlR.addr hv (by omega)
          have hx : vss[k]? = some vss[k] := List.getElem?_eq_getElem (by omega)
          obtain ⟨av, nv, cv, hvk, hcell⟩ := VR.el hv hx
          have hcell := hcell b o rfl
          have hlk := hvk.len
          have hvW := hW vss[k] (List.getElem_mem (by omega))
          have hu : U64 (ws ++ (vss.take k).flatten) := by
            intro x hx
            rcases List.mem_append.1 hx with hx | hx
            · exact h.u64 x hx
            · obtain ⟨l, hl, hx⟩ := List.mem_flatten.1 hx
              obtain ⟨i, hi⟩ := List.mem_iff_getElem?.1 (List.mem_of_mem_take hl)
              obtain ⟨_, _, _, hv2, _⟩ := VR.el hv hi
              exact hv2.u64 x hx
          have hrow := (hs.row a' (ws ++ (vss.take k).flatten).length c').wr hu
          have hfl2 : [ws ++ (vss.take k).flatten, vss[k]].flatten = ws ++ (vss.take (k + 1)).flatten := by rw [take_flat _ _ (by omega)]; simp
          have hle2 : (ws ++ (vss.take (k + 1)).flatten).length ≤ 10000000 := by
            rw [List.length_append, take_flat _ _ (by omega), List.length_append, hle]; omega
          repeat' (first
            | ((apply al_none; refine JL_o (by apply as_buildSlice; exact OpR_buildSlice hs rfl (by omega) rfl) rfl rfl ?_; rintro _ _ ⟨_, rfl, hb, hs, hE⟩; have hrow := hrow.ext hE))
            | ((apply al_none; refine JL_o (OpR_callF en41 rfl (joined_r _ _ _ _ [ws ++ (vss.take k).flatten, vss[k]] All (slr_blk2 (hs.blk) hrow.1 hrow.2.1 hrow.2.2.1 hrow.2.2.2 hvk.1 hvk.2.1 hvk.2.2.1 (hvk.st hs).2.2.2) (by omega) (by rw [hfl2]; omega))) rfl rfl ?_; rintro _ _ ⟨a3, c3, rfl, hf⟩; rw [hfl2] at hf; have hs := (hs.fresh hf).sub (M := [_, _, _]) (.cons_cons _ (.cons _ (.cons _ (.cons_cons _ (.cons_cons _ .slnil))))); rw [hfl2]))
            | (apply JL_nil)
            | ((first | (apply JL_pure)); (first
      | (apply as_load; exact OpR_load_cell (hs.old_cell hcell) rfl is_rfl)
      | (apply as_move; first | exact OpR_move rfl is_rfl)
      | (apply as_assign; first | exact OpR_assign rfl is_rfl)
      | (apply as_fieldAddr; first | exact OpR_fieldAddr0 rfl rfl is_rfl | exact OpR_fieldAddr rfl rfl is_rfl)
      | (apply as_load; first | exact OpR_load' hs rfl rfl is_rfl | exact OpR_load_agg' hs rfl is_rfl)
      | (apply as_add; first | exact OpR_addn rfl rfl (by omega) (by first | (simp only [Int.reduceAdd]; exact rfl) | exact rfl) is_rfl | exact OpR_ibin rfl rfl rfl is_rfl)
      | (apply as_binOp; first | exact OpR_ibin rfl rfl rfl is_rfl | exact OpR_beq rfl rfl is_rfl | exact OpR_bne rfl rfl is_rfl | exact OpR_eqNil rfl rfl is_rfl | exact OpR_neNil rfl rfl is_rfl)
      | (apply as_b_len; first | exact OpR_len rfl is_rfl | exact OpR_len_str rfl is_rfl | exact OpR_len_arr rfl is_rfl)
      | (apply as_makeFunc; first | exact OpR_func rfl is_rfl)
      | (apply as_indexAddr; first | exact OpR_indexAddr rfl rfl (by omega) (by omega) is_rfl | exact OpR_indexAddr_arr' rfl rfl (by omega) (by omega) (by first | (simp only [Int.reduceToNat, Nat.reduceMul, Nat.reduceAdd]; exact rfl) | exact rfl) is_rfl)
      | (apply as_build; first | exact OpR_build rfl (by (simp only [bld, placesOf, splice, Value.cells, List.take_succ_cons, List.take_zero, List.drop_succ_cons, List.drop_zero, List.cons_append, List.nil_append, List.length_cons, List.length_nil, List.getElem?_cons_zero, List.getElem?_cons_succ, Option.map_some, List.append_nil, Nat.reduceAdd, Nat.reduceMul, Nat.zero_add, Nat.reduceLeDiff, and_self, if_true, List.toList_toArray, Nat.le_refl, Nat.zero_mul, Nat.one_mul]; first | done | rfl)) is_rfl | exact OpR_build_arr rfl (by (simp only [bld, placesOf, splice, Value.cells, List.take_succ_cons, List.take_zero, List.drop_succ_cons, List.drop_zero, List.cons_append, List.nil_append, List.length_cons, List.length_nil, List.getElem?_cons_zero, List.getElem?_cons_succ, Option.map_some, List.append_nil, Nat.reduceAdd, Nat.reduceMul, Nat.zero_add, Nat.reduceLeDiff, and_self, if_true, List.toList_toArray, Nat.le_refl, Nat.zero_mul, Nat.one_mul]; first | done | rfl)) is_rfl)); first | (exact rfl; exact rfl) | exact rfl)
            | (apply J_seq)
            | (apply J_region)
            | (apply J_block)
            | (apply J_inBlock)
            | (apply aj_exit; refine J_exit rfl ?_)
            | (apply J_skip)
            | (apply al_none; (first | (refine JL_o (by apply as_box; exact OpR_box' hs rfl) rfl rfl ?_) | (refine JL_o (by apply as_alloc; exact OpR_alloc' hs) rfl rfl ?_)); rintro _ _ ⟨_, rfl, hb, hs, hE⟩)
            | (apply al_unit; refine JL_u (by apply as_store; exact OpR_store' hs rfl rfl rfl) rfl ?_; rintro _ _ ⟨hs, hF⟩)
            | (apply aj_cond; first | refine J_dec_t rfl (by first | assumption | omega) ?_ | refine J_dec_f rfl (by first | assumption | omega) ?_ | refine J_cond_t rfl (by first | assumption | rfl | exact decide_eq_true (by first | assumption | omega) | exact decide_eq_false (by first | assumption | omega)) ?_ | refine J_cond_f rfl (by first | assumption | rfl | exact decide_eq_true (by first | assumption | omega) | exact decide_eq_false (by first | assumption | omega)) ?_ | (refine J_cond_dec rfl (fun _ => ?_) (fun _ => ?_)) | (refine J_cond rfl (fun _ => ?_) (fun _ => ?_))))
          refine J.to (ih (k + 1, a3, c3) _ ⟨hs, by omega⟩ (by dsimp only; omega)) ⟨rfl, rfl, rfl, rfl, rfl, rfl, rfl, trivial⟩
        · have e : vss.take k = vss := List.take_of_length_le (by omega)
          rw [e] at hs ⊢
          repeat' (first
            | (apply JL_nil)
            | ((first | (apply JL_pure)); (first
      | (apply as_move; first | exact OpR_move rfl is_rfl)
      | (apply as_assign; first | exact OpR_assign rfl is_rfl)
      | (apply as_fieldAddr; first | exact OpR_fieldAddr0 rfl rfl is_rfl | exact OpR_fieldAddr rfl rfl is_rfl)
      | (apply as_load; first | exact OpR_load' hs rfl rfl is_rfl | exact OpR_load_agg' hs rfl is_rfl)
      | (apply as_add; first | exact OpR_addn rfl rfl (by omega) (by first | (simp only [Int.reduceAdd]; exact rfl) | exact rfl) is_rfl | exact OpR_ibin rfl rfl rfl is_rfl)
      | (apply as_binOp; first | exact OpR_ibin rfl rfl rfl is_rfl | exact OpR_beq rfl rfl is_rfl | exact OpR_bne rfl rfl is_rfl | exact OpR_eqNil rfl rfl is_rfl | exact OpR_neNil rfl rfl is_rfl)
      | (apply as_b_len; first | exact OpR_len rfl is_rfl | exact OpR_len_str rfl is_rfl | exact OpR_len_arr rfl is_rfl)
      | (apply as_makeFunc; first | exact OpR_func rfl is_rfl)
      | (apply as_indexAddr; first | exact OpR_indexAddr rfl rfl (by omega) (by omega) is_rfl | exact OpR_indexAddr_arr' rfl rfl (by omega) (by omega) (by first | (simp only [Int.reduceToNat, Nat.reduceMul, Nat.reduceAdd]; exact rfl) | exact rfl) is_rfl)
      | (apply as_build; first | exact OpR_build rfl (by (simp only [bld, placesOf, splice, Value.cells, List.take_succ_cons, List.take_zero, List.drop_succ_cons, List.drop_zero, List.cons_append, List.nil_append, List.length_cons, List.length_nil, List.getElem?_cons_zero, List.getElem?_cons_succ, Option.map_some, List.append_nil, Nat.reduceAdd, Nat.reduceMul, Nat.zero_add, Nat.reduceLeDiff, and_self, if_true, List.toList_toArray, Nat.le_refl, Nat.zero_mul, Nat.one_mul]; first | done | rfl)) is_rfl | exact OpR_build_arr rfl (by (simp only [bld, placesOf, splice, Value.cells, List.take_succ_cons, List.take_zero, List.drop_succ_cons, List.drop_zero, List.cons_append, List.nil_append, List.length_cons, List.length_nil, List.getElem?_cons_zero, List.getElem?_cons_succ, Option.map_some, List.append_nil, Nat.reduceAdd, Nat.reduceMul, Nat.zero_add, Nat.reduceLeDiff, and_self, if_true, List.toList_toArray, Nat.le_refl, Nat.zero_mul, Nat.one_mul]; first | done | rfl)) is_rfl)); first | (exact rfl; exact rfl) | exact rfl)
            | (apply J_seq)
            | (apply J_region)
            | (apply J_block)
            | (apply J_inBlock)
            | (apply aj_exit; refine J_exit rfl ?_)
            | (apply J_skip)
            | (apply al_none; (first | (refine JL_o (by apply as_box; exact OpR_box' hs rfl) rfl rfl ?_) | (refine JL_o (by apply as_alloc; exact OpR_alloc' hs) rfl rfl ?_)); rintro _ _ ⟨_, rfl, hb, hs, hE⟩)
            | (apply al_unit; refine JL_u (by apply as_store; exact OpR_store' hs rfl rfl rfl) rfl ?_; rintro _ _ ⟨hs, hF⟩)
            | (apply aj_cond; first | refine J_dec_t rfl (by first | assumption | omega) ?_ | refine J_dec_f rfl (by first | assumption | omega) ?_ | refine J_cond_t rfl (by first | assumption | rfl | exact decide_eq_true (by first | assumption | omega) | exact decide_eq_false (by first | assumption | omega)) ?_ | refine J_cond_f rfl (by first | assumption | rfl | exact decide_eq_true (by first | assumption | omega) | exact decide_eq_false (by first | assumption | omega)) ?_ | (refine J_cond_dec rfl (fun _ => ?_) (fun _ => ?_)) | (refine J_cond rfl (fun _ => ?_) (fun _ => ?_))))
          refine J_leave Try.func24 rfl (.agg' hs rfl rfl (.tmp rfl .nil)) ⟨_, _, ?_, hs.out (.cons_cons _ (.cons _ (.cons _ .slnil)))⟩
          rw [hll]; rfl
  · rw [if_neg hB]
    repeat' (first
      | ((apply al_none; refine JL_o (OpR_callF en28 rfl (check_r _ _ _ _ _ _)) rfl rfl ?_; rintro _ _ ⟨hE, rfl⟩; have hs := hs.ext hE; rw [if_neg hB]))
      | (apply JL_nil)
      | ((first | (apply JL_pure)); (first
      | (apply as_move; first | exact OpR_move rfl is_rfl)
      | (apply as_assign; first | exact OpR_assign rfl is_rfl)
      | (apply as_fieldAddr; first | exact OpR_fieldAddr0 rfl rfl is_rfl | exact OpR_fieldAddr rfl rfl is_rfl)
      | (apply as_load; first | exact OpR_load' hs rfl rfl is_rfl | exact OpR_load_agg' hs rfl is_rfl)
      | (apply as_add; first | exact OpR_addn rfl rfl (by omega) (by first | (simp only [Int.reduceAdd]; exact rfl) | exact rfl) is_rfl | exact OpR_ibin rfl rfl rfl is_rfl)
      | (apply as_binOp; first | exact OpR_ibin rfl rfl rfl is_rfl | exact OpR_beq rfl rfl is_rfl | exact OpR_bne rfl rfl is_rfl | exact OpR_eqNil rfl rfl is_rfl | exact OpR_neNil rfl rfl is_rfl)
      | (apply as_b_len; first | exact OpR_len rfl is_rfl | exact OpR_len_str rfl is_rfl | exact OpR_len_arr rfl is_rfl)
      | (apply as_makeFunc; first | exact OpR_func rfl is_rfl)
      | (apply as_indexAddr; first | exact OpR_indexAddr rfl rfl (by omega) (by omega) is_rfl | exact OpR_indexAddr_arr' rfl rfl (by omega) (by omega) (by first | (simp only [Int.reduceToNat, Nat.reduceMul, Nat.reduceAdd]; exact rfl) | exact rfl) is_rfl)
      | (apply as_build; first | exact OpR_build rfl (by (simp only [bld, placesOf, splice, Value.cells, List.take_succ_cons, List.take_zero, List.drop_succ_cons, List.drop_zero, List.cons_append, List.nil_append, List.length_cons, List.length_nil, List.getElem?_cons_zero, List.getElem?_cons_succ, Option.map_some, List.append_nil, Nat.reduceAdd, Nat.reduceMul, Nat.zero_add, Nat.reduceLeDiff, and_self, if_true, List.toList_toArray, Nat.le_refl, Nat.zero_mul, Nat.one_mul]; first | done | rfl)) is_rfl | exact OpR_build_arr rfl (by (simp only [bld, placesOf, splice, Value.cells, List.take_succ_cons, List.take_zero, List.drop_succ_cons, List.drop_zero, List.cons_append, List.nil_append, List.length_cons, List.length_nil, List.getElem?_cons_zero, List.getElem?_cons_succ, Option.map_some, List.append_nil, Nat.reduceAdd, Nat.reduceMul, Nat.zero_add, Nat.reduceLeDiff, and_self, if_true, List.toList_toArray, Nat.le_refl, Nat.zero_mul, Nat.one_mul]; first | done | rfl)) is_rfl)); first | (exact rfl; exact rfl) | exact rfl)
      | (apply J_seq)
      | (apply J_region)
      | (apply J_block)
      | (apply J_inBlock)
      | (apply aj_exit; refine J_exit rfl ?_)
      | (apply J_skip)
      | (apply al_none; (first | (refine JL_o (by apply as_box; exact OpR_box' hs rfl) rfl rfl ?_) | (refine JL_o (by apply as_alloc; exact OpR_alloc' hs) rfl rfl ?_)); rintro _ _ ⟨_, rfl, hb, hs, hE⟩)
      | (apply al_unit; refine JL_u (by apply as_store; exact OpR_store' hs rfl rfl rfl) rfl ?_; rintro _ _ ⟨hs, hF⟩)
      | (apply aj_cond; first | refine J_dec_t rfl (by first | assumption | omega) ?_ | refine J_dec_f rfl (by first | assumption | omega) ?_ | refine J_cond_t rfl (by first | assumption | rfl | exact decide_eq_true (by first | assumption | omega) | exact decide_eq_false (by first | assumption | omega)) ?_ | refine J_cond_f rfl (by first | assumption | rfl | exact decide_eq_true (by first | assumption | omega) | exact decide_eq_false (by first | assumption | omega)) ?_ | (refine J_cond_dec rfl (fun _ => ?_) (fun _ => ?_)) | (refine J_cond rfl (fun _ => ?_) (fun _ => ?_))))
    refine J_leave Try.func24 rfl (.agg' hs rfl rfl (.tmp rfl .nil)) (ColRes.zero _ hs.frm.ext)
end Go.Eng
