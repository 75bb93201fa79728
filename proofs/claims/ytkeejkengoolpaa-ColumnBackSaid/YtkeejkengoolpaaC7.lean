/- Column: the laws' wakes. -/
import Derived.Test.YtkeejkengoolpaaC6
namespace Go.Eng
open Go.Proofs
attribute [local irreducible] J JL JD OpR OpG Ret RetV Is Blk Row
set_option maxRecDepth 100000
set_option maxHeartbeats 400000
set_option linter.unusedSimpArgs false
set_option linter.unusedVariables false
theorem rowV_blk {w : World} {b e : Nat} {cs : List Value} (h : w.heap[b]? = some (.cells cs.toArray e (0, 0))) (hm : cs.length ≤ maxLen) : RowV w (some ⟨b, 0, none⟩) cs.length cs.length e 1 cs :=
  ⟨by omega, Nat.le_refl _, hm, .inr ⟨b, 0, cs.toArray, rfl, h, by simp, by simp⟩⟩
theorem datsV_nil {α : Type} {d : Ty α} {w : World} : DatsV All d w [] [] := ⟨rfl, fun i c x hc => by simp at hc⟩
theorem DatsV.pushA {β : Type} {d : Ty β} {w : World} {ys : List β} {xss : List (List β)} {cells : List Value} {a : Option Addr} {n c : Nat} (h : DatsV All (tSl d) w cells xss) (s : Sl d All w a n c ys) : DatsV All (tSl d) w (cells ++ [.slice a n c]) (xss ++ [ys]) := by
  have := DatsV.push h s
  exact ⟨this.1, fun i c x hc hx => (tSl d).weak (this.2 i c x hc hx) (fun _ _ => trivial)⟩
theorem blkSl2 {w : World} {b e : Nat} {x y : Int} (h : w.heap[b]? = some (.cells #[.int .u64 x, .int .u64 y] e (0, 0))) (hx : 0 ≤ x ∧ x ≤ 100) (hy : 0 ≤ y ∧ y ≤ 100) : Sl (tInt .u64) All w (some ⟨b, 0, none⟩) 2 2 [x, y] :=
  ((rowV_blk (cs := [.int .u64 x, .int .u64 y]) h (by simp [maxLen])).sl (xs := [x, y]) (by intro v hv; simp at hv; rcases hv with rfl | rfl <;> simp only [inK] <;> omega)).weak (fun _ _ => trivial)
theorem blkSl1 {w : World} {b e : Nat} {x : Int} (h : w.heap[b]? = some (.cells #[.int .u64 x] e (0, 0))) (hx : 0 ≤ x ∧ x ≤ 100) : Sl (tInt .u64) All w (some ⟨b, 0, none⟩) 1 1 [x] :=
  ((rowV_blk (cs := [.int .u64 x]) h (by simp [maxLen])).sl (xs := [x]) (by intro v hv; simp at hv; subst hv; simp only [inK]; omega)).weak (fun _ _ => trivial)
theorem Sl.wr {w : World} {a : Option Addr} {n c : Nat} {ws : List Int} (h : Sl (tInt .u64) All w a n c ws) : WR w a n c ws := ⟨h.le, h.cap, h.nil0, h.sl⟩
theorem WR.sl {w : World} {a : Option Addr} {n c : Nat} {ws : List Int} (h : WR w a n c ws) : Sl (tInt .u64) All w a n c ws := ⟨h.1, h.2.1, h.2.2.1, h.2.2.2⟩
theorem wr_nil (w : World) : WR w none 0 0 [] := ((rowV_nil w 41 1).sl (k := .u64) (xs := []) (by simp)).weak (R' := All) (fun _ _ => trivial) |>.wr
theorem new2_r (w : World) : Ret Try.prog 29 #[.int .i64 2] w fun v w' => Ext w w' ∧ v = .tuple #[.agg #[.int .i64 2, .int .i64 0, .slice none 0 0], .int .i64 0] := new_r w 2 (by omega)
theorem pushA_r (w : World) (al : Option Addr) (cl : Nat) (hv : VR w al 3 [[1, 2], [3, 4], [5, 6]]) :
    Ret Try.prog 24 #[.agg #[.int .i64 2, .int .i64 0, .slice none 0 0], .slice al 3 cl] w fun v w' => ColRes v w w' (2, 3, [1, 2, 3, 4, 5, 6], 0) :=
  push_r w 2 0 none al 0 0 3 cl [] _ (wr_nil w) hv (by omega)
theorem swapA_r (w : World) (a : Option Addr) (c : Nat) (h : WR w a 6 c [1, 2, 3, 4, 5, 6]) : Ret Try.prog 15 #[.agg #[.int .i64 2, .int .i64 3, .slice a 6 c], .int .i64 0] w fun v w' => ColRes v w w' (2, 2, [5, 6, 3, 4], 0) := swap_r w 2 3 0 a 6 c _ h
theorem getA_r (w : World) (a : Option Addr) (c : Nat) (h : WR w a 4 c [5, 6, 3, 4]) : Ret Try.prog 14 #[.agg #[.int .i64 2, .int .i64 2, .slice a 4 c], .int .i64 0] w fun v w' => ValRes v w w' ([5, 6], 0) := get_r w 2 2 0 a 4 c _ h
theorem setA_r (w : World) (a av : Option Addr) (c cv : Nat) (h : WR w a 6 c [1, 2, 3, 4, 5, 6]) (hv : WR w av 1 cv [9]) : Ret Try.prog 22 #[.agg #[.int .i64 2, .int .i64 3, .slice a 6 c], .int .i64 1, .slice av 1 cv] w fun v w' => ColRes v w w' (0, 0, [], 140) := set_r w 2 3 1 a av 6 c 1 cv _ _ h hv
theorem u64_of {ws : List Int} (h : ws.all (fun x => decide (0 ≤ x) && decide (x ≤ 100)) = true) : U64 ws := by
  intro x hx
  have := List.all_eq_true.1 h x hx
  simp at this
  simp only [inK]; omega
set_option maxHeartbeats 400000 in
theorem wakes_r (w : World) : Ret Try.prog 9 #[] w fun v w' => Ext w w' ∧ v = .bool true := by
  refine Ret_of (l := []) Try.func9 rfl Try.ntmps9 (by simp) ?_
  have hs := St.init w
  repeat' (first
    | ((apply al_none; refine JL_o (OpR_callF en29 rfl (new2_r _)) rfl rfl ?_; rintro _ _ ⟨hE, rfl⟩; have hs := hs.ext hE))
    | ((apply al_none; refine JL_o (by apply as_alloc; exact OpR_alloc' hs) rfl rfl ?_; rintro _ _ ⟨_, rfl, hb, hs, hE⟩))
    | ((apply al_none; refine JL_o (by apply as_buildSlice; exact OpR_buildSlice hs rfl (by omega) rfl) rfl rfl ?_; rintro _ _ ⟨_, rfl, hb, hs, hE⟩))
    | ((apply al_none; refine JL_o (OpR_callF en24 rfl (pushA_r _ _ _ (RowV.slD (rowV_blk (cs := [.slice _ 2 2, .slice _ 2 2, .slice _ 2 2]) hs.blk (by simp [maxLen])) (((datsV_nil.pushA (blkSl2 hs.blk (by omega) (by omega))).pushA (blkSl2 hs.blk (by omega) (by omega))).pushA (blkSl2 hs.blk (by omega) (by omega))) rfl).sl.all)) rfl rfl ?_; rintro _ _ ⟨a1, c1, rfl, hf⟩; have hs : St _ _ _ [_, _, _, _, _, _] := hs.fresh hf; dsimp only at hs ⊢; simp only [List.length_cons, List.length_nil, Nat.zero_add, Nat.reduceAdd] at hs ⊢))
    | ((apply al_none; refine JL_o (OpR_callF en15 rfl (swapA_r _ _ _ ((hs.row _ 6 _).wr (u64_of rfl)))) rfl rfl ?_; rintro _ _ ⟨a2, c2, rfl, hf⟩; have hs : St _ _ _ [_, _, _, _, _, _, _] := hs.fresh hf; dsimp only at hs ⊢; simp only [List.length_cons, List.length_nil, Nat.zero_add, Nat.reduceAdd] at hs ⊢))
    | ((apply al_none; refine JL_o (OpR_callF en14 rfl (getA_r _ _ _ ((hs.row _ 4 _).wr (u64_of rfl)))) rfl rfl ?_; rintro _ _ ⟨a3, c3, rfl, hf⟩; have hs : St _ _ _ [_, _, _, _, _, _, _, _, _] := hs.fresh hf; dsimp only at hs ⊢; simp only [List.length_cons, List.length_nil, Nat.zero_add, Nat.reduceAdd] at hs ⊢))
    | ((apply al_none; refine JL_o (OpR_callF en22 rfl (setA_r _ _ _ _ _ ((hs.row _ 6 _).wr (u64_of rfl)) (blkSl1 hs.blk (by omega)).wr)) rfl rfl ?_; rintro _ _ ⟨a4, c4, rfl, hf⟩; have hs : St _ _ _ [_, _, _, _, _, _, _, _, _, _, _] := hs.fresh hf; dsimp only at hs ⊢; simp only [List.length_cons, List.length_nil, Nat.zero_add, Nat.reduceAdd] at hs ⊢))
    | ((refine JL_o_on rfl (by first | assumption | rfl | exact decide_eq_true (by first | assumption | omega) | exact decide_eq_false (by first | assumption | omega)) (by apply as_buildSlice; exact OpR_buildSlice hs rfl (by omega) rfl) rfl rfl ?_; rintro _ _ ⟨_, rfl, hb, hs, hE⟩))
    | ((refine JL_o_on rfl (by first | assumption | rfl | exact decide_eq_true (by first | assumption | omega) | exact decide_eq_false (by first | assumption | omega)) (OpR_callF en19 rfl (equal19_r _ _ _ _ _ _ _ [5, 6] [5, 6] _ _ ((hs.row a3 2 c3).wr (ws := [5, 6]) (u64_of rfl)).2.2.2 (blkSl2 hs.blk (by omega) (by omega)).sl (by omega))) rfl rfl ?_; rintro _ _ ⟨rfl, hE⟩; have hs := hs.ext hE))
    | (apply JL_nil)
    | ((first | (apply JL_pure) | (apply JL_pure_on; exact rfl; (first | assumption | exact rfl | exact decide_eq_true (by first | assumption | omega) | exact decide_eq_false (by first | assumption | omega)))); (first
      | (apply as_move; first | exact OpR_move rfl is_rfl)
      | (apply as_assign; first | exact OpR_assign rfl is_rfl)
      | (apply as_fieldAddr; first | exact OpR_fieldAddr0 rfl rfl is_rfl | exact OpR_fieldAddr rfl rfl is_rfl)
      | (apply as_load; first | exact OpR_load' hs rfl rfl is_rfl | exact OpR_load_agg' hs rfl is_rfl)
      | (apply as_binOp; first | exact OpR_ibin rfl rfl rfl is_rfl | exact OpR_beq rfl rfl is_rfl | exact OpR_bne rfl rfl is_rfl | exact OpR_eqNil rfl rfl is_rfl | exact OpR_neNil rfl rfl is_rfl)
      | (apply as_pick; first | exact OpR_pick_t rfl (by first | assumption | rfl | exact decide_eq_true (by first | assumption | omega) | exact decide_eq_false (by first | assumption | omega)) rfl is_rfl | exact OpR_pick_f rfl (by first | assumption | rfl | exact decide_eq_true (by first | assumption | omega) | exact decide_eq_false (by first | assumption | omega)) rfl is_rfl)
      | (apply as_extract; first | exact OpR_extract rfl rfl is_rfl)); first | (exact rfl; exact rfl) | exact rfl)
    | (apply J_seq)
    | (apply J_region)
    | (apply al_none; (first | (refine JL_o (by apply as_box; exact OpR_box' hs rfl) rfl rfl ?_) | (refine JL_o (by apply as_alloc; exact OpR_alloc' hs) rfl rfl ?_)); rintro _ _ ⟨_, rfl, hb, hs, hE⟩)
    | (apply al_unit; refine JL_u (by apply as_store; exact OpR_store' hs rfl rfl rfl) rfl ?_; rintro _ _ ⟨hs, hF⟩)
    | (apply al_guard; first
    | (refine JL_no rfl (by first | assumption | rfl | exact decide_eq_true (by first | assumption | omega) | exact decide_eq_false (by first | assumption | omega)) rfl ?_)
    | (fail_if_success (apply JL_o_on rfl (by first | assumption | rfl | exact decide_eq_true (by first | assumption | omega) | exact decide_eq_false (by first | assumption | omega)))); first | (refine JL_split_dec rfl (fun _ => ?_) (fun _ => ?_)) | (refine JL_split rfl (fun _ => ?_) (fun _ => ?_)))
    | (apply aj_cond; first | refine J_dec_t rfl (by first | assumption | omega) ?_ | refine J_dec_f rfl (by first | assumption | omega) ?_ | refine J_cond_t rfl (by first | assumption | rfl | exact decide_eq_true (by first | assumption | omega) | exact decide_eq_false (by first | assumption | omega)) ?_ | refine J_cond_f rfl (by first | assumption | rfl | exact decide_eq_true (by first | assumption | omega) | exact decide_eq_false (by first | assumption | omega)) ?_ | (refine J_cond_dec rfl (fun _ => ?_) (fun _ => ?_)) | (refine J_cond rfl (fun _ => ?_) (fun _ => ?_))))
  refine J_leave Try.func9 rfl (.tmp rfl .nil) ⟨hs.frm.ext, rfl⟩
end Go.Eng
