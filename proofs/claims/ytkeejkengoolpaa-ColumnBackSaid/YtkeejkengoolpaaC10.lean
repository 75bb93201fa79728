/- Column: Move. -/
import Derived.Test.YtkeejkengoolpaaC8
namespace Go.Eng
open Go.Proofs
attribute [local irreducible] J JL JD OpR OpG Ret RetV Is Blk Row
set_option maxRecDepth 100000
set_option maxHeartbeats 2000000
set_option linter.unusedSimpArgs false
set_option linter.unusedVariables false
/-- Loading a struct while some other blocks may be written. -/
theorem OpR_load_aggX {P : Program} {env : Env} {w0 w W : World} {F X : Nat → Prop} {L : List HP} {dst : Option Tmp} {ty : TypeId} {pos : String} {af : Array Edge} {gd : Option (Nat × Bool)} {S : Value → World → Prop} {T b s e : Nat} {x : Operand} {cs : List Value} {fz : Nat × Nat}
    [A : Agg P T s] (hs : St w0 F w L) (hW : Rl X w W) (hx : ev env x = some (.pointer (some ⟨b, 0, none⟩))) [m : BlkAt L b (.cells cs.toArray e fz)] (hl : cs.length = s) (hX : ¬ X b) (hS : S (.agg cs.toArray) W) : OpR P env ⟨dst, .load T x, ty, pos, af, gd⟩ W S := by
  have hb : w.heap[b]? = some (.cells cs.toArray e fz) := hs.blk
  have hlt := (Array.getElem?_eq_some_iff.1 hb).1
  have hb2 : W.heap[b]? = some (.cells cs.toArray e fz) := (hW.old b hlt hX).trans hb
  exact OpR_load_cells hl (fun j v hv => cell_blk hb2 (by simpa using hv)) hx hS
/-- Two columns, and a number, as a result. -/
def MoveRes (v : Value) (w w' : World) (x y : Int × Int × List Int) (no : Int) : Prop :=
  ∃ a c a' c', v = .tuple #[.agg #[.int .i64 x.1, .int .i64 x.2.1, .slice a x.2.2.length c], .agg #[.int .i64 y.1, .int .i64 y.2.1, .slice a' y.2.2.length c'], .int .i64 no] ∧
    Fresh w w' [Row a x.2.2.length c 41 1 (u64s x.2.2), Row a' y.2.2.length c' 41 1 (u64s y.2.2)]
theorem MoveRes.zero {w w' : World} (no : Int) (h : Ext w w') : MoveRes (.tuple #[.agg #[.int .i64 0, .int .i64 0, .slice none 0 0], .agg #[.int .i64 0, .int .i64 0, .slice none 0 0], .int .i64 no]) w w' (0, 0, []) (0, 0, []) no :=
  ⟨none, 0, none, 0, rfl, by have := (((St.init w).ext h).nilRow 41 1).nilRow 41 1; exact this.out (List.Sublist.refl _)⟩
def moveM (W1 R1 W2 R2 r : Int) (ws1 ws2 : List Int) : (Int × Int × List Int) × (Int × Int × List Int) × Int :=
  if colB W1 R1 ws1.length = true then if colB W2 R2 ws2.length = true then if (0 ≤ r ∧ r < R1) ∧ W1 = W2 then ((W1, R1 - 1, swapW W1 R1 r ws1), (W2, R2 + 1, ws2 ++ rowOf W1 r ws1), 0) else ((0, 0, []), (0, 0, []), 2) else ((0, 0, []), (0, 0, []), 180) else ((0, 0, []), (0, 0, []), 180)
theorem move_r (w : World) (W1 R1 W2 R2 r : Int) (a1 a2 : Option Addr) (n1 c1 n2 c2 : Nat) (ws1 ws2 : List Int) (h1 : WR w a1 n1 c1 ws1) (h2 : WR w a2 n2 c2 ws2) (hsm : colB W2 R2 n2 = true → R2 ≤ 1000) :
    Ret Try.prog 25 #[.agg #[.int .i64 W1, .int .i64 R1, .slice a1 n1 c1], .agg #[.int .i64 W2, .int .i64 R2, .slice a2 n2 c2], .int .i64 r] w fun v w' =>
      MoveRes v w w' (moveM W1 R1 W2 R2 r ws1 ws2).1 (moveM W1 R1 W2 R2 r ws1 ws2).2.1 (moveM W1 R1 W2 R2 r ws1 ws2).2.2 := by
  refine Ret_of (l := [_, _, _]) Try.func25 rfl Try.ntmps25 (by simp) ?_
  have hs := St.init w
  have hl1 := h1.len
  have hl2 := h2.len
  subst hl1
  subst hl2
  unfold moveM
  by_cases hB1 : colB W1 R1 ws1.length = true
  · rw [if_pos hB1]
    by_cases hB2 : colB W2 R2 ws2.length = true
    · rw [if_pos hB2]
      have hw1 := colB_W hB1
      have hw2 := colB_W hB2
      have hsm2 := hsm hB2
      by_cases hr : 0 ≤ r ∧ r < R1
      · have hget : getM W1 R1 r ws1 = (rowOf W1 r ws1, 0) := by unfold getM; rw [if_pos hB1, if_pos hr]
        by_cases hW : W1 = W2
        · rw [if_pos ⟨hr, hW⟩]
          have hb := row_bd hB1 hr
          have huv : U64 (rowOf W1 r ws1) := u64_row h1.u64
          have hlr : (rowOf W1 r ws1).length = W1.toNat := by simp [rowOf]; omega
          have hpush : pushM W2 R2 ws2 [rowOf W1 r ws1] = (W2, R2 + 1, ws2 ++ rowOf W1 r ws1, 0) := by
            unfold pushM
            rw [if_pos hB2, if_neg (by simp; omega), if_neg (by simp; omega)]
            simp
          have hsw : doesM W1 R1 r ws1.length 0 (R1 - 1) (swapW W1 R1 r ws1) = (W1, R1 - 1, swapW W1 R1 r ws1, 0) := by unfold doesM; rw [if_pos hB1, if_pos hr]; rfl
          repeat' (first
            | ((apply al_none; refine JL_o (by apply as_alloc; exact OpR_alloc' (L := [_, _]) hs) rfl rfl ?_; rintro _ _ ⟨b6, rfl, hb6, hs, hE⟩))
            | ((apply al_none; refine JL_o (by apply as_alloc; exact OpR_alloc' (L := [_, _, _]) hs) rfl rfl ?_; rintro _ _ ⟨b7, rfl, hb7, hs, hE⟩))
            | ((apply al_none; have h6 := hs.lt (b := b6); have h7 := hs.lt (b := b7); refine JL_o (by apply as_alloc; exact OpR_alloc' hs) rfl rfl ?_; rintro _ _ ⟨b9, rfl, hb9, hs, hE⟩))
            | ((apply aj_draw; refine J_draw (id := 10) (fun k => k = b6 ∨ k = b7) [0, 0, 0, 1, 11, 31] [(0, false), (1, false), (2, false), (3, true), (4, true), (5, false)] [] mixed (by kernel_rfl) (by kernel_rfl) ?_; intro _ hE _; have hs := hs.ext hE))
            | ((apply JD_fx; exact rfl; (intro _ hRl; first | (apply as_load; exact OpR_load_aggX hs hRl rfl rfl (by rintro (h | h) <;> omega) is_rfl) | (apply as_move; exact OpR_move rfl is_rfl) | (apply as_assign; exact OpR_assign rfl is_rfl)); exact rfl))
            | ((apply JD_cu; exact rfl; (apply as_store; exact OpR_store' hs rfl rfl rfl); (intro _ _ h; exact ⟨h.2.os, h.2.tape, h.2.output, h.2.size, fun k hk hx => h.2.old k hk (fun e => hx (by subst e; first | exact .inl rfl | exact .inr rfl)), h.2.drawn⟩); exact rfl; rintro _ _ ⟨hs, hF⟩))
            | ((apply al_none; refine JL_o (OpR_callF en28 rfl (check_r _ W1 R1 a1 ws1.length c1)) rfl rfl ?_; rintro _ _ ⟨hE, rfl⟩; have hs := hs.ext hE; rw [if_pos hB1]))
            | ((refine JL_o_on rfl (by first | assumption | rfl | exact decide_eq_true (by first | assumption | omega) | exact decide_eq_false (by first | assumption | omega)) (OpR_callF en28 rfl (check_r _ W2 R2 a2 ws2.length c2)) rfl rfl ?_; rintro _ _ ⟨hE, rfl⟩; have hs := hs.ext hE; rw [if_pos hB2]))
            | ((apply al_none; refine JL_o (OpR_callF en14 rfl (get_r _ W1 R1 r a1 ws1.length c1 ws1 (h1.st hs))) rfl rfl ?_; rw [hget]; rintro _ _ ⟨av, cv, rfl, hf⟩; dsimp only at hf ⊢; have hs : St _ _ _ [_, _, _, _, _] := hs.fresh hf))
            | ((apply al_none; refine JL_o (by apply as_buildSlice; exact OpR_buildSlice hs rfl (by omega) rfl) rfl rfl ?_; rintro _ _ ⟨b5, rfl, hb5, hs, hE⟩))
            | ((apply al_none; have hrv := (hs.row av (rowOf W1 r ws1).length cv).wr huv; refine JL_o (OpR_callF en24 rfl (push_r _ W2 R2 a2 _ ws2.length c2 1 _ ws2 [rowOf W1 r ws1] (h2.st hs) (slr_blk1 hs.blk hrv.1 hrv.2.1 hrv.2.2.1 hrv.2.2.2) (by omega))) rfl rfl ?_; clear hrv; rw [hpush]; rintro _ _ ⟨ap, cp, rfl, hf⟩; dsimp only at hf ⊢; have hs : St _ _ _ [_, _, _, _, _, _, _] := hs.fresh hf))
            | ((apply al_none; refine JL_o (OpR_callF en15 rfl (swap_r _ W1 R1 r a1 ws1.length c1 ws1 (h1.st hs))) rfl rfl ?_; rw [hsw]; rintro _ _ ⟨as_, cs_, rfl, hf⟩; dsimp only at hf ⊢; have hs : St _ _ _ [_, _, _, _, _, _, _, _, _] := hs.fresh hf))
            | (apply JL_nil)
            | ((first | (apply JL_pure) | (apply JL_pure_on; exact rfl; (first | assumption | exact rfl | exact decide_eq_true (by first | assumption | omega) | exact decide_eq_false (by first | assumption | omega))) | (apply JD_f; exact rfl; exact hs; intro W hE hs) | (apply JD_f_on; exact rfl; exact rfl; (first | assumption | exact rfl | exact decide_eq_true (by first | assumption | omega) | exact decide_eq_false (by first | assumption | omega)); exact hs; intro W hE hs)); (first
      | (apply as_move; first | exact OpR_move rfl is_rfl)
      | (apply as_assign; first | exact OpR_assign rfl is_rfl)
      | (apply as_fieldAddr; first | exact OpR_fieldAddr0 rfl rfl is_rfl | exact OpR_fieldAddr rfl rfl is_rfl)
      | (apply as_load; first | exact OpR_load' hs rfl rfl is_rfl | exact OpR_load_agg' hs rfl is_rfl)
      | (apply as_binOp; first | exact OpR_ibin rfl rfl rfl is_rfl | exact OpR_beq rfl rfl is_rfl | exact OpR_bne rfl rfl is_rfl | exact OpR_eqNil rfl rfl is_rfl | exact OpR_neNil rfl rfl is_rfl)
      | (apply as_pick; first | exact OpR_pick_t rfl (by first | assumption | rfl | exact decide_eq_true (by first | assumption | omega) | exact decide_eq_false (by first | assumption | omega)) rfl is_rfl | exact OpR_pick_f rfl (by first | assumption | rfl | exact decide_eq_true (by first | assumption | omega) | exact decide_eq_false (by first | assumption | omega)) rfl is_rfl)
      | (apply as_extract; first | exact OpR_extract rfl rfl is_rfl)
      | (apply as_build; first | exact OpR_build rfl (by (simp only [bld, placesOf, splice, Value.cells, List.take_succ_cons, List.take_zero, List.drop_succ_cons, List.drop_zero, List.cons_append, List.nil_append, List.length_cons, List.length_nil, List.getElem?_cons_zero, List.getElem?_cons_succ, Option.map_some, List.append_nil, Nat.reduceAdd, Nat.reduceMul, Nat.zero_add, Nat.reduceLeDiff, and_self, if_true, List.toList_toArray, Nat.le_refl, Nat.zero_mul, Nat.one_mul]; first | done | rfl)) is_rfl | exact OpR_build_arr rfl (by (simp only [bld, placesOf, splice, Value.cells, List.take_succ_cons, List.take_zero, List.drop_succ_cons, List.drop_zero, List.cons_append, List.nil_append, List.length_cons, List.length_nil, List.getElem?_cons_zero, List.getElem?_cons_succ, Option.map_some, List.append_nil, Nat.reduceAdd, Nat.reduceMul, Nat.zero_add, Nat.reduceLeDiff, and_self, if_true, List.toList_toArray, Nat.le_refl, Nat.zero_mul, Nat.one_mul]; first | done | rfl)) is_rfl)); first | (exact rfl; exact rfl) | exact rfl)
            | (apply J_seq)
            | (apply J_region)
            | (apply J_skip)
            | (apply al_none; (first | (refine JL_o (by apply as_box; exact OpR_box' hs rfl) rfl rfl ?_) | (refine JL_o (by apply as_alloc; exact OpR_alloc' hs) rfl rfl ?_)); rintro _ _ ⟨_, rfl, hb, hs, hE⟩)
            | (apply al_unit; refine JL_u (by apply as_store; exact OpR_store' hs rfl rfl rfl) rfl ?_; rintro _ _ ⟨hs, hF⟩)
            | (apply al_guard; first
    | (refine JL_no rfl (by first | assumption | rfl | exact decide_eq_true (by first | assumption | omega) | exact decide_eq_false (by first | assumption | omega)) rfl ?_)
    | (fail_if_success (apply JL_o_on rfl (by first | assumption | rfl | exact decide_eq_true (by first | assumption | omega) | exact decide_eq_false (by first | assumption | omega)))); first | (refine JL_split_dec rfl (fun _ => ?_) (fun _ => ?_)) | (refine JL_split rfl (fun _ => ?_) (fun _ => ?_)))
            | (apply aj_cond; first | refine J_dec_t rfl (by first | assumption | omega) ?_ | refine J_dec_f rfl (by first | assumption | omega) ?_ | refine J_cond_t rfl (by first | assumption | rfl | exact decide_eq_true (by first | assumption | omega) | exact decide_eq_false (by first | assumption | omega)) ?_ | refine J_cond_f rfl (by first | assumption | rfl | exact decide_eq_true (by first | assumption | omega) | exact decide_eq_false (by first | assumption | omega)) ?_ | (refine J_cond_dec rfl (fun _ => ?_) (fun _ => ?_)) | (refine J_cond rfl (fun _ => ?_) (fun _ => ?_)))
            | (apply aj_draw; first
    | (refine J_draw (id := 10) NoF [0, 0, 0, 1, 11, 31] [(0, false), (1, false), (2, false)] [3, 4, 5] mixed (by kernel_rfl) (by kernel_rfl) ?_; intro _ hE _; have hs := hs.ext hE))
            | (apply JD_done)
            | (apply JD_tail; case' hos => (simp only [List.map_cons, List.map_nil, List.getElem?_toArray, List.getElem?_cons_succ, List.getElem?_cons_zero]; repeat' (first | exact ms_nil | apply ms_cons)))
            | (refine JD_f_off rfl rfl (by first | assumption | rfl | exact decide_eq_true (by first | assumption | omega) | exact decide_eq_false (by first | assumption | omega)) rfl ?_)
            | (refine JD_c_off rfl rfl (by first | assumption | rfl | exact decide_eq_true (by first | assumption | omega) | exact decide_eq_false (by first | assumption | omega)) rfl ?_)
            | (refine JD_split_dec rfl rfl (fun _ => ?_) (fun _ => ?_))
            | (refine JD_split rfl rfl (fun _ => ?_) (fun _ => ?_)))
          refine J_leave Try.func25 rfl (.agg' hs rfl rfl (.agg' hs rfl rfl (.tmp rfl .nil))) ⟨as_, cs_, ap, cp, rfl, hs.out ?_⟩
          exact .cons _ (.cons_cons _ (.cons _ (.cons_cons _ (List.nil_sublist _))))
        · rw [if_neg (fun h => hW h.2)]
          repeat' (first
            | ((apply al_none; refine JL_o (OpR_callF en28 rfl (check_r _ W1 R1 a1 ws1.length c1)) rfl rfl ?_; rintro _ _ ⟨hE, rfl⟩; have hs := hs.ext hE; rw [if_pos hB1]))
            | ((refine JL_o_on rfl (by first | assumption | rfl | exact decide_eq_true (by first | assumption | omega) | exact decide_eq_false (by first | assumption | omega)) (OpR_callF en28 rfl (check_r _ W2 R2 a2 ws2.length c2)) rfl rfl ?_; rintro _ _ ⟨hE, rfl⟩; have hs := hs.ext hE; rw [if_pos hB2]))
            | ((apply al_none; refine JL_o (OpR_callF en14 rfl (get_r _ W1 R1 r a1 ws1.length c1 ws1 (h1.st hs))) rfl rfl ?_; rw [hget]; rintro _ _ ⟨av, cv, rfl, hf⟩; dsimp only at hf ⊢; have hs : St _ _ _ [_, _, _, _, _] := hs.fresh hf))
            | (apply JL_nil)
            | ((first | (apply JL_pure) | (apply JL_pure_on; exact rfl; (first | assumption | exact rfl | exact decide_eq_true (by first | assumption | omega) | exact decide_eq_false (by first | assumption | omega))) | (apply JD_f; exact rfl; exact hs; intro W hE hs) | (apply JD_f_on; exact rfl; exact rfl; (first | assumption | exact rfl | exact decide_eq_true (by first | assumption | omega) | exact decide_eq_false (by first | assumption | omega)); exact hs; intro W hE hs)); (first
      | (apply as_move; first | exact OpR_move rfl is_rfl)
      | (apply as_assign; first | exact OpR_assign rfl is_rfl)
      | (apply as_fieldAddr; first | exact OpR_fieldAddr0 rfl rfl is_rfl | exact OpR_fieldAddr rfl rfl is_rfl)
      | (apply as_load; first | exact OpR_load' hs rfl rfl is_rfl | exact OpR_load_agg' hs rfl is_rfl)
      | (apply as_binOp; first | exact OpR_ibin rfl rfl rfl is_rfl | exact OpR_beq rfl rfl is_rfl | exact OpR_bne rfl rfl is_rfl | exact OpR_eqNil rfl rfl is_rfl | exact OpR_neNil rfl rfl is_rfl)
      | (apply as_pick; first | exact OpR_pick_t rfl (by first | assumption | rfl | exact decide_eq_true (by first | assumption | omega) | exact decide_eq_false (by first | assumption | omega)) rfl is_rfl | exact OpR_pick_f rfl (by first | assumption | rfl | exact decide_eq_true (by first | assumption | omega) | exact decide_eq_false (by first | assumption | omega)) rfl is_rfl)
      | (apply as_extract; first | exact OpR_extract rfl rfl is_rfl)
      | (apply as_build; first | exact OpR_build rfl (by (simp only [bld, placesOf, splice, Value.cells, List.take_succ_cons, List.take_zero, List.drop_succ_cons, List.drop_zero, List.cons_append, List.nil_append, List.length_cons, List.length_nil, List.getElem?_cons_zero, List.getElem?_cons_succ, Option.map_some, List.append_nil, Nat.reduceAdd, Nat.reduceMul, Nat.zero_add, Nat.reduceLeDiff, and_self, if_true, List.toList_toArray, Nat.le_refl, Nat.zero_mul, Nat.one_mul]; first | done | rfl)) is_rfl | exact OpR_build_arr rfl (by (simp only [bld, placesOf, splice, Value.cells, List.take_succ_cons, List.take_zero, List.drop_succ_cons, List.drop_zero, List.cons_append, List.nil_append, List.length_cons, List.length_nil, List.getElem?_cons_zero, List.getElem?_cons_succ, Option.map_some, List.append_nil, Nat.reduceAdd, Nat.reduceMul, Nat.zero_add, Nat.reduceLeDiff, and_self, if_true, List.toList_toArray, Nat.le_refl, Nat.zero_mul, Nat.one_mul]; first | done | rfl)) is_rfl)); first | (exact rfl; exact rfl) | exact rfl)
            | (apply J_seq)
            | (apply J_region)
            | (apply J_skip)
            | (apply al_none; (first | (refine JL_o (by apply as_box; exact OpR_box' hs rfl) rfl rfl ?_) | (refine JL_o (by apply as_alloc; exact OpR_alloc' hs) rfl rfl ?_)); rintro _ _ ⟨_, rfl, hb, hs, hE⟩)
            | (apply al_unit; refine JL_u (by apply as_store; exact OpR_store' hs rfl rfl rfl) rfl ?_; rintro _ _ ⟨hs, hF⟩)
            | (apply al_guard; first
    | (refine JL_no rfl (by first | assumption | rfl | exact decide_eq_true (by first | assumption | omega) | exact decide_eq_false (by first | assumption | omega)) rfl ?_)
    | (fail_if_success (apply JL_o_on rfl (by first | assumption | rfl | exact decide_eq_true (by first | assumption | omega) | exact decide_eq_false (by first | assumption | omega)))); first | (refine JL_split_dec rfl (fun _ => ?_) (fun _ => ?_)) | (refine JL_split rfl (fun _ => ?_) (fun _ => ?_)))
            | (apply aj_cond; first | refine J_dec_t rfl (by first | assumption | omega) ?_ | refine J_dec_f rfl (by first | assumption | omega) ?_ | refine J_cond_t rfl (by first | assumption | rfl | exact decide_eq_true (by first | assumption | omega) | exact decide_eq_false (by first | assumption | omega)) ?_ | refine J_cond_f rfl (by first | assumption | rfl | exact decide_eq_true (by first | assumption | omega) | exact decide_eq_false (by first | assumption | omega)) ?_ | (refine J_cond_dec rfl (fun _ => ?_) (fun _ => ?_)) | (refine J_cond rfl (fun _ => ?_) (fun _ => ?_)))
            | (apply aj_draw; first
    | (refine J_draw (id := 10) NoF [0, 0, 0, 1, 11, 31] [(0, false), (1, false), (2, false)] [3, 4, 5] mixed (by kernel_rfl) (by kernel_rfl) ?_; intro _ hE _; have hs := hs.ext hE))
            | (apply JD_done)
            | (apply JD_tail; case' hos => (simp only [List.map_cons, List.map_nil, List.getElem?_toArray, List.getElem?_cons_succ, List.getElem?_cons_zero]; repeat' (first | exact ms_nil | apply ms_cons)))
            | (refine JD_f_off rfl rfl (by first | assumption | rfl | exact decide_eq_true (by first | assumption | omega) | exact decide_eq_false (by first | assumption | omega)) rfl ?_)
            | (refine JD_c_off rfl rfl (by first | assumption | rfl | exact decide_eq_true (by first | assumption | omega) | exact decide_eq_false (by first | assumption | omega)) rfl ?_)
            | (refine JD_split_dec rfl rfl (fun _ => ?_) (fun _ => ?_))
            | (refine JD_split rfl rfl (fun _ => ?_) (fun _ => ?_)))
          refine J_leave Try.func25 rfl (.agg' hs rfl rfl (.agg' hs rfl rfl (.tmp rfl .nil))) (MoveRes.zero _ hs.frm.ext)
      · rw [if_neg (fun h => hr h.1)]
        have hget : getM W1 R1 r ws1 = ([], 2) := by unfold getM; rw [if_pos hB1, if_neg hr]
        repeat' (first
          | ((apply al_none; refine JL_o (OpR_callF en28 rfl (check_r _ W1 R1 a1 ws1.length c1)) rfl rfl ?_; rintro _ _ ⟨hE, rfl⟩; have hs := hs.ext hE; rw [if_pos hB1]))
          | ((refine JL_o_on rfl (by first | assumption | rfl | exact decide_eq_true (by first | assumption | omega) | exact decide_eq_false (by first | assumption | omega)) (OpR_callF en28 rfl (check_r _ W2 R2 a2 ws2.length c2)) rfl rfl ?_; rintro _ _ ⟨hE, rfl⟩; have hs := hs.ext hE; rw [if_pos hB2]))
          | ((apply al_none; refine JL_o (OpR_callF en14 rfl (get_r _ W1 R1 r a1 ws1.length c1 ws1 (h1.st hs))) rfl rfl ?_; rw [hget]; rintro _ _ ⟨av, cv, rfl, hf⟩; dsimp only at hf ⊢; have hs : St _ _ _ [_, _, _, _, _] := hs.fresh hf))
          | (apply JL_nil)
          | ((first | (apply JL_pure) | (apply JL_pure_on; exact rfl; (first | assumption | exact rfl | exact decide_eq_true (by first | assumption | omega) | exact decide_eq_false (by first | assumption | omega))) | (apply JD_f; exact rfl; exact hs; intro W hE hs) | (apply JD_f_on; exact rfl; exact rfl; (first | assumption | exact rfl | exact decide_eq_true (by first | assumption | omega) | exact decide_eq_false (by first | assumption | omega)); exact hs; intro W hE hs)); (first
      | (apply as_move; first | exact OpR_move rfl is_rfl)
      | (apply as_assign; first | exact OpR_assign rfl is_rfl)
      | (apply as_fieldAddr; first | exact OpR_fieldAddr0 rfl rfl is_rfl | exact OpR_fieldAddr rfl rfl is_rfl)
      | (apply as_load; first | exact OpR_load' hs rfl rfl is_rfl | exact OpR_load_agg' hs rfl is_rfl)
      | (apply as_binOp; first | exact OpR_ibin rfl rfl rfl is_rfl | exact OpR_beq rfl rfl is_rfl | exact OpR_bne rfl rfl is_rfl | exact OpR_eqNil rfl rfl is_rfl | exact OpR_neNil rfl rfl is_rfl)
      | (apply as_pick; first | exact OpR_pick_t rfl (by first | assumption | rfl | exact decide_eq_true (by first | assumption | omega) | exact decide_eq_false (by first | assumption | omega)) rfl is_rfl | exact OpR_pick_f rfl (by first | assumption | rfl | exact decide_eq_true (by first | assumption | omega) | exact decide_eq_false (by first | assumption | omega)) rfl is_rfl)
      | (apply as_extract; first | exact OpR_extract rfl rfl is_rfl)
      | (apply as_build; first | exact OpR_build rfl (by (simp only [bld, placesOf, splice, Value.cells, List.take_succ_cons, List.take_zero, List.drop_succ_cons, List.drop_zero, List.cons_append, List.nil_append, List.length_cons, List.length_nil, List.getElem?_cons_zero, List.getElem?_cons_succ, Option.map_some, List.append_nil, Nat.reduceAdd, Nat.reduceMul, Nat.zero_add, Nat.reduceLeDiff, and_self, if_true, List.toList_toArray, Nat.le_refl, Nat.zero_mul, Nat.one_mul]; first | done | rfl)) is_rfl | exact OpR_build_arr rfl (by (simp only [bld, placesOf, splice, Value.cells, List.take_succ_cons, List.take_zero, List.drop_succ_cons, List.drop_zero, List.cons_append, List.nil_append, List.length_cons, List.length_nil, List.getElem?_cons_zero, List.getElem?_cons_succ, Option.map_some, List.append_nil, Nat.reduceAdd, Nat.reduceMul, Nat.zero_add, Nat.reduceLeDiff, and_self, if_true, List.toList_toArray, Nat.le_refl, Nat.zero_mul, Nat.one_mul]; first | done | rfl)) is_rfl)); first | (exact rfl; exact rfl) | exact rfl)
          | (apply J_seq)
          | (apply J_region)
          | (apply J_skip)
          | (apply al_none; (first | (refine JL_o (by apply as_box; exact OpR_box' hs rfl) rfl rfl ?_) | (refine JL_o (by apply as_alloc; exact OpR_alloc' hs) rfl rfl ?_)); rintro _ _ ⟨_, rfl, hb, hs, hE⟩)
          | (apply al_unit; refine JL_u (by apply as_store; exact OpR_store' hs rfl rfl rfl) rfl ?_; rintro _ _ ⟨hs, hF⟩)
          | (apply al_guard; first
    | (refine JL_no rfl (by first | assumption | rfl | exact decide_eq_true (by first | assumption | omega) | exact decide_eq_false (by first | assumption | omega)) rfl ?_)
    | (fail_if_success (apply JL_o_on rfl (by first | assumption | rfl | exact decide_eq_true (by first | assumption | omega) | exact decide_eq_false (by first | assumption | omega)))); first | (refine JL_split_dec rfl (fun _ => ?_) (fun _ => ?_)) | (refine JL_split rfl (fun _ => ?_) (fun _ => ?_)))
          | (apply aj_cond; first | refine J_dec_t rfl (by first | assumption | omega) ?_ | refine J_dec_f rfl (by first | assumption | omega) ?_ | refine J_cond_t rfl (by first | assumption | rfl | exact decide_eq_true (by first | assumption | omega) | exact decide_eq_false (by first | assumption | omega)) ?_ | refine J_cond_f rfl (by first | assumption | rfl | exact decide_eq_true (by first | assumption | omega) | exact decide_eq_false (by first | assumption | omega)) ?_ | (refine J_cond_dec rfl (fun _ => ?_) (fun _ => ?_)) | (refine J_cond rfl (fun _ => ?_) (fun _ => ?_)))
          | (apply aj_draw; first
    | (refine J_draw (id := 10) NoF [0, 0, 0, 1, 11, 31] [(0, false), (1, false), (2, false)] [3, 4, 5] mixed (by kernel_rfl) (by kernel_rfl) ?_; intro _ hE _; have hs := hs.ext hE))
          | (apply JD_done)
          | (apply JD_tail; case' hos => (simp only [List.map_cons, List.map_nil, List.getElem?_toArray, List.getElem?_cons_succ, List.getElem?_cons_zero]; repeat' (first | exact ms_nil | apply ms_cons)))
          | (refine JD_f_off rfl rfl (by first | assumption | rfl | exact decide_eq_true (by first | assumption | omega) | exact decide_eq_false (by first | assumption | omega)) rfl ?_)
          | (refine JD_c_off rfl rfl (by first | assumption | rfl | exact decide_eq_true (by first | assumption | omega) | exact decide_eq_false (by first | assumption | omega)) rfl ?_)
          | (refine JD_split_dec rfl rfl (fun _ => ?_) (fun _ => ?_))
          | (refine JD_split rfl rfl (fun _ => ?_) (fun _ => ?_)))
        refine J_leave Try.func25 rfl (.agg' hs rfl rfl (.agg' hs rfl rfl (.tmp rfl .nil))) (MoveRes.zero _ hs.frm.ext)
    · rw [if_neg hB2]
      repeat' (first
        | ((apply al_none; refine JL_o (OpR_callF en28 rfl (check_r _ W1 R1 a1 ws1.length c1)) rfl rfl ?_; rintro _ _ ⟨hE, rfl⟩; have hs := hs.ext hE; rw [if_pos hB1]))
        | ((refine JL_o_on rfl (by first | assumption | rfl | exact decide_eq_true (by first | assumption | omega) | exact decide_eq_false (by first | assumption | omega)) (OpR_callF en28 rfl (check_r _ W2 R2 a2 ws2.length c2)) rfl rfl ?_; rintro _ _ ⟨hE, rfl⟩; have hs := hs.ext hE; rw [if_neg hB2]))
        | (apply JL_nil)
        | ((first | (apply JL_pure) | (apply JL_pure_on; exact rfl; (first | assumption | exact rfl | exact decide_eq_true (by first | assumption | omega) | exact decide_eq_false (by first | assumption | omega))) | (apply JD_f; exact rfl; exact hs; intro W hE hs) | (apply JD_f_on; exact rfl; exact rfl; (first | assumption | exact rfl | exact decide_eq_true (by first | assumption | omega) | exact decide_eq_false (by first | assumption | omega)); exact hs; intro W hE hs)); (first
      | (apply as_move; first | exact OpR_move rfl is_rfl)
      | (apply as_assign; first | exact OpR_assign rfl is_rfl)
      | (apply as_fieldAddr; first | exact OpR_fieldAddr0 rfl rfl is_rfl | exact OpR_fieldAddr rfl rfl is_rfl)
      | (apply as_load; first | exact OpR_load' hs rfl rfl is_rfl | exact OpR_load_agg' hs rfl is_rfl)
      | (apply as_binOp; first | exact OpR_ibin rfl rfl rfl is_rfl | exact OpR_beq rfl rfl is_rfl | exact OpR_bne rfl rfl is_rfl | exact OpR_eqNil rfl rfl is_rfl | exact OpR_neNil rfl rfl is_rfl)
      | (apply as_pick; first | exact OpR_pick_t rfl (by first | assumption | rfl | exact decide_eq_true (by first | assumption | omega) | exact decide_eq_false (by first | assumption | omega)) rfl is_rfl | exact OpR_pick_f rfl (by first | assumption | rfl | exact decide_eq_true (by first | assumption | omega) | exact decide_eq_false (by first | assumption | omega)) rfl is_rfl)
      | (apply as_extract; first | exact OpR_extract rfl rfl is_rfl)
      | (apply as_build; first | exact OpR_build rfl (by (simp only [bld, placesOf, splice, Value.cells, List.take_succ_cons, List.take_zero, List.drop_succ_cons, List.drop_zero, List.cons_append, List.nil_append, List.length_cons, List.length_nil, List.getElem?_cons_zero, List.getElem?_cons_succ, Option.map_some, List.append_nil, Nat.reduceAdd, Nat.reduceMul, Nat.zero_add, Nat.reduceLeDiff, and_self, if_true, List.toList_toArray, Nat.le_refl, Nat.zero_mul, Nat.one_mul]; first | done | rfl)) is_rfl | exact OpR_build_arr rfl (by (simp only [bld, placesOf, splice, Value.cells, List.take_succ_cons, List.take_zero, List.drop_succ_cons, List.drop_zero, List.cons_append, List.nil_append, List.length_cons, List.length_nil, List.getElem?_cons_zero, List.getElem?_cons_succ, Option.map_some, List.append_nil, Nat.reduceAdd, Nat.reduceMul, Nat.zero_add, Nat.reduceLeDiff, and_self, if_true, List.toList_toArray, Nat.le_refl, Nat.zero_mul, Nat.one_mul]; first | done | rfl)) is_rfl)); first | (exact rfl; exact rfl) | exact rfl)
        | (apply J_seq)
        | (apply J_region)
        | (apply J_skip)
        | (apply al_none; (first | (refine JL_o (by apply as_box; exact OpR_box' hs rfl) rfl rfl ?_) | (refine JL_o (by apply as_alloc; exact OpR_alloc' hs) rfl rfl ?_)); rintro _ _ ⟨_, rfl, hb, hs, hE⟩)
        | (apply al_unit; refine JL_u (by apply as_store; exact OpR_store' hs rfl rfl rfl) rfl ?_; rintro _ _ ⟨hs, hF⟩)
        | (apply al_guard; first
    | (refine JL_no rfl (by first | assumption | rfl | exact decide_eq_true (by first | assumption | omega) | exact decide_eq_false (by first | assumption | omega)) rfl ?_)
    | (fail_if_success (apply JL_o_on rfl (by first | assumption | rfl | exact decide_eq_true (by first | assumption | omega) | exact decide_eq_false (by first | assumption | omega)))); first | (refine JL_split_dec rfl (fun _ => ?_) (fun _ => ?_)) | (refine JL_split rfl (fun _ => ?_) (fun _ => ?_)))
        | (apply aj_cond; first | refine J_dec_t rfl (by first | assumption | omega) ?_ | refine J_dec_f rfl (by first | assumption | omega) ?_ | refine J_cond_t rfl (by first | assumption | rfl | exact decide_eq_true (by first | assumption | omega) | exact decide_eq_false (by first | assumption | omega)) ?_ | refine J_cond_f rfl (by first | assumption | rfl | exact decide_eq_true (by first | assumption | omega) | exact decide_eq_false (by first | assumption | omega)) ?_ | (refine J_cond_dec rfl (fun _ => ?_) (fun _ => ?_)) | (refine J_cond rfl (fun _ => ?_) (fun _ => ?_)))
        | (apply aj_draw; first
    | (refine J_draw (id := 10) NoF [0, 0, 0, 1, 11, 31] [(0, false), (1, false), (2, false)] [3, 4, 5] mixed (by kernel_rfl) (by kernel_rfl) ?_; intro _ hE _; have hs := hs.ext hE))
        | (apply JD_done)
        | (apply JD_tail; case' hos => (simp only [List.map_cons, List.map_nil, List.getElem?_toArray, List.getElem?_cons_succ, List.getElem?_cons_zero]; repeat' (first | exact ms_nil | apply ms_cons)))
        | (refine JD_f_off rfl rfl (by first | assumption | rfl | exact decide_eq_true (by first | assumption | omega) | exact decide_eq_false (by first | assumption | omega)) rfl ?_)
        | (refine JD_c_off rfl rfl (by first | assumption | rfl | exact decide_eq_true (by first | assumption | omega) | exact decide_eq_false (by first | assumption | omega)) rfl ?_)
        | (refine JD_split_dec rfl rfl (fun _ => ?_) (fun _ => ?_))
        | (refine JD_split rfl rfl (fun _ => ?_) (fun _ => ?_)))
      refine J_leave Try.func25 rfl (.agg' hs rfl rfl (.agg' hs rfl rfl (.tmp rfl .nil))) (MoveRes.zero _ hs.frm.ext)
  · rw [if_neg hB1]
    repeat' (first
      | ((apply al_none; refine JL_o (OpR_callF en28 rfl (check_r _ W1 R1 a1 ws1.length c1)) rfl rfl ?_; rintro _ _ ⟨hE, rfl⟩; have hs := hs.ext hE; rw [if_neg hB1]))
      | (apply JL_nil)
      | ((first | (apply JL_pure) | (apply JL_pure_on; exact rfl; (first | assumption | exact rfl | exact decide_eq_true (by first | assumption | omega) | exact decide_eq_false (by first | assumption | omega))) | (apply JD_f; exact rfl; exact hs; intro W hE hs) | (apply JD_f_on; exact rfl; exact rfl; (first | assumption | exact rfl | exact decide_eq_true (by first | assumption | omega) | exact decide_eq_false (by first | assumption | omega)); exact hs; intro W hE hs)); (first
      | (apply as_move; first | exact OpR_move rfl is_rfl)
      | (apply as_assign; first | exact OpR_assign rfl is_rfl)
      | (apply as_fieldAddr; first | exact OpR_fieldAddr0 rfl rfl is_rfl | exact OpR_fieldAddr rfl rfl is_rfl)
      | (apply as_load; first | exact OpR_load' hs rfl rfl is_rfl | exact OpR_load_agg' hs rfl is_rfl)
      | (apply as_binOp; first | exact OpR_ibin rfl rfl rfl is_rfl | exact OpR_beq rfl rfl is_rfl | exact OpR_bne rfl rfl is_rfl | exact OpR_eqNil rfl rfl is_rfl | exact OpR_neNil rfl rfl is_rfl)
      | (apply as_pick; first | exact OpR_pick_t rfl (by first | assumption | rfl | exact decide_eq_true (by first | assumption | omega) | exact decide_eq_false (by first | assumption | omega)) rfl is_rfl | exact OpR_pick_f rfl (by first | assumption | rfl | exact decide_eq_true (by first | assumption | omega) | exact decide_eq_false (by first | assumption | omega)) rfl is_rfl)
      | (apply as_extract; first | exact OpR_extract rfl rfl is_rfl)
      | (apply as_build; first | exact OpR_build rfl (by (simp only [bld, placesOf, splice, Value.cells, List.take_succ_cons, List.take_zero, List.drop_succ_cons, List.drop_zero, List.cons_append, List.nil_append, List.length_cons, List.length_nil, List.getElem?_cons_zero, List.getElem?_cons_succ, Option.map_some, List.append_nil, Nat.reduceAdd, Nat.reduceMul, Nat.zero_add, Nat.reduceLeDiff, and_self, if_true, List.toList_toArray, Nat.le_refl, Nat.zero_mul, Nat.one_mul]; first | done | rfl)) is_rfl | exact OpR_build_arr rfl (by (simp only [bld, placesOf, splice, Value.cells, List.take_succ_cons, List.take_zero, List.drop_succ_cons, List.drop_zero, List.cons_append, List.nil_append, List.length_cons, List.length_nil, List.getElem?_cons_zero, List.getElem?_cons_succ, Option.map_some, List.append_nil, Nat.reduceAdd, Nat.reduceMul, Nat.zero_add, Nat.reduceLeDiff, and_self, if_true, List.toList_toArray, Nat.le_refl, Nat.zero_mul, Nat.one_mul]; first | done | rfl)) is_rfl)); first | (exact rfl; exact rfl) | exact rfl)
      | (apply J_seq)
      | (apply J_region)
      | (apply J_skip)
      | (apply al_none; (first | (refine JL_o (by apply as_box; exact OpR_box' hs rfl) rfl rfl ?_) | (refine JL_o (by apply as_alloc; exact OpR_alloc' hs) rfl rfl ?_)); rintro _ _ ⟨_, rfl, hb, hs, hE⟩)
      | (apply al_unit; refine JL_u (by apply as_store; exact OpR_store' hs rfl rfl rfl) rfl ?_; rintro _ _ ⟨hs, hF⟩)
      | (apply al_guard; first
    | (refine JL_no rfl (by first | assumption | rfl | exact decide_eq_true (by first | assumption | omega) | exact decide_eq_false (by first | assumption | omega)) rfl ?_)
    | (fail_if_success (apply JL_o_on rfl (by first | assumption | rfl | exact decide_eq_true (by first | assumption | omega) | exact decide_eq_false (by first | assumption | omega)))); first | (refine JL_split_dec rfl (fun _ => ?_) (fun _ => ?_)) | (refine JL_split rfl (fun _ => ?_) (fun _ => ?_)))
      | (apply aj_cond; first | refine J_dec_t rfl (by first | assumption | omega) ?_ | refine J_dec_f rfl (by first | assumption | omega) ?_ | refine J_cond_t rfl (by first | assumption | rfl | exact decide_eq_true (by first | assumption | omega) | exact decide_eq_false (by first | assumption | omega)) ?_ | refine J_cond_f rfl (by first | assumption | rfl | exact decide_eq_true (by first | assumption | omega) | exact decide_eq_false (by first | assumption | omega)) ?_ | (refine J_cond_dec rfl (fun _ => ?_) (fun _ => ?_)) | (refine J_cond rfl (fun _ => ?_) (fun _ => ?_)))
      | (apply aj_draw; first
    | (refine J_draw (id := 10) NoF [0, 0, 0, 1, 11, 31] [(0, false), (1, false), (2, false)] [3, 4, 5] mixed (by kernel_rfl) (by kernel_rfl) ?_; intro _ hE _; have hs := hs.ext hE))
      | (apply JD_done)
      | (apply JD_tail; case' hos => (simp only [List.map_cons, List.map_nil, List.getElem?_toArray, List.getElem?_cons_succ, List.getElem?_cons_zero]; repeat' (first | exact ms_nil | apply ms_cons)))
      | (refine JD_f_off rfl rfl (by first | assumption | rfl | exact decide_eq_true (by first | assumption | omega) | exact decide_eq_false (by first | assumption | omega)) rfl ?_)
      | (refine JD_c_off rfl rfl (by first | assumption | rfl | exact decide_eq_true (by first | assumption | omega) | exact decide_eq_false (by first | assumption | omega)) rfl ?_)
      | (refine JD_split_dec rfl rfl (fun _ => ?_) (fun _ => ?_))
      | (refine JD_split rfl rfl (fun _ => ?_) (fun _ => ?_)))
    refine J_leave Try.func25 rfl (.agg' hs rfl rfl (.agg' hs rfl rfl (.tmp rfl .nil))) (MoveRes.zero _ hs.frm.ext)
end Go.Eng
