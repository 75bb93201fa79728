/- The texts D14, D15, D16, D17, D18, D19, D20, D21, D22, D23, D24, D25, D26, D27, joined. -/
import Derived.Test.YthencidlkacpdaaDoorY1
import Derived.Ground.SlsfProg
import Derived.Shelf.SlLaysF
import Derived.Test.YthencidlkacpdaaDoorE21
/- Record: the reference's With. -/
namespace Go.Eng
open Go.Proofs
/-- How many stay when those at the end of which p is true go. -/
def trimN (p : Sp → Bool) (xs : List Sp) : Nat → Nat
  | 0 => 0
  | m + 1 => if p (xs.getD m (0, 0)) then trimN p xs m else m + 1
def trimM (p : Sp → Bool) (xs : List Sp) : List Sp := xs.take (trimN p xs xs.length)
theorem trimN_le (p : Sp → Bool) (xs : List Sp) : ∀ m, trimN p xs m ≤ m
  | 0 => Nat.le_refl _
  | m + 1 => by have := trimN_le p xs m; rw [trimN]; split <;> omega
theorem trimM_len (p : Sp → Bool) (xs : List Sp) : (trimM p xs).length = trimN p xs xs.length := by
  have := trimN_le p xs xs.length
  unfold trimM; rw [List.length_take]; omega
def t0B (s : Sp) : Bool := decide (s.1 = 0)
attribute [local irreducible] J JL JD JX JXat OpR OpG Ret RetV Is Blk Row MapC
set_option maxRecDepth 100000
set_option maxHeartbeats 1000000
set_option linter.unusedSimpArgs false
set_option linter.unusedVariables false
theorem with_r (w : World) (a : Option Addr) (n c : Nat) (xs : List Sp) (i : Nat) (s1 s2 : Int) (hi : 1 ≤ i ∧ i ≤ 1048578) (h : Sl dSp All w a n c xs) (hn2 : n ≤ 4000000) :
    Ret Tryd.prog 42 #[.agg #[.slice a n c], .int .i64 i, .agg #[.int .i64 s1, .int .i64 s2]] w fun v w' => ∃ a' c', v = .agg #[.slice a' (trimM t0B (putM xs i (s1, s2))).length c'] ∧ Fresh w w' [Row a' (trimM t0B (putM xs i (s1, s2))).length c' 34 2 (cSp (trimM t0B (putM xs i (s1, s2))))] := by
  refine Ret_of (l := [_, _, _]) Tryd.func42 rfl Tryd.ntmps42 (by simp) ?_
  have hs := St.init w
  have hl := h.len
  subst hl
  have hge : growM xs xs.length = xs := by simp [growM]
  obtain ⟨hsrc, hpl, -⟩ := h.srcF
  repeat' (first
    | ((apply al_none (t := 8); refine JL_o (by apply as_buildSlice; exact OpR_buildSlice hs rfl (by omega) rfl) rfl rfl ?_; rintro _ _ ⟨b8, rfl, hb8, hs, hE⟩; have hs := hs.toRow 0 0 0 2 (xs := []) (Nat.le_refl _) (by unfold maxLen; omega) (by simp) rfl))
    | ((apply al_none; refine JL_o (by apply as_b_append; exact OpR_append hs rfl rfl (Src.st hsrc hs) hpl rfl (by omega) (by unfold maxLen; omega)) rfl rfl ?_; rintro _ _ ⟨a2, c2, rfl, hs, hF, hnil⟩; rw [Nat.zero_add] at hs ⊢; rw [List.nil_append] at hs))
    | (apply JL_nil)
    | ((apply JL_pure); (first
      | (apply as_assign; exact OpR_assign rfl is_rfl)
      | (apply as_fieldAddr; exact OpR_fieldAddr0 rfl rfl is_rfl)
      | (apply as_load; exact OpR_load' hs rfl rfl is_rfl)); first | (exact rfl; exact rfl) | exact rfl)
    | (apply J_seq)
    | (apply J_region)
    | (apply J_block)
    | (apply al_none (t := 3); refine JL_o (by apply as_box; exact OpR_box' hs rfl) rfl rfl ?_; rintro _ _ ⟨b3, rfl, hb3, hs, hE⟩)
    | (apply al_none (t := 5); refine JL_o (by apply as_box; exact OpR_box' hs rfl) rfl rfl ?_; rintro _ _ ⟨b5, rfl, hb5, hs, hE⟩)
    | (apply al_none (t := 6); refine JL_o (by apply as_alloc; exact OpR_alloc' hs) rfl rfl ?_; rintro _ _ ⟨b6, rfl, hb6, hs, hE⟩))
  obtain ⟨k, rfl⟩ : ∃ k, i = k + 1 := ⟨i - 1, by omega⟩
  have e2 : ((k + 1 : Nat) : Int) - 1 = (k : Int) := by omega
  refine J_loopK (α := Option Addr × Nat × Nat) [(1, _), (5, _), (6, _)] (fun g => [(7, .slice g.1 g.2.1 g.2.2)]) (fun g w' => xs.length ≤ g.2.1 ∧ (g.2.1 = xs.length ∨ g.2.1 ≤ k + 1) ∧ St w NoF w' [Row g.1 g.2.1 g.2.2 34 2 (cSp (growM xs g.2.1)), Blk b6 (.cells #[.slice none 0 0] 24 (0, 0)), Blk b5 (.cells #[.int .i64 s1, .int .i64 s2] 34 (0, 0))]) (fun g => k + 1 - g.2.1) (a2, xs.length, c2) ⟨Nat.le_refl _, .inl rfl, by rw [hge]; exact hs.sel [0, 1, 2] (by decide)⟩ (by repeat' (first | exact trivial | exact rfl | apply And.intro)) ?_
  rintro ⟨a3, m, c3⟩ w' ⟨hm1, hm2, hs⟩ ih
  dsimp only at hm1 hm2 hs ih ⊢
  have hml : (growM xs m).length = m := by rw [growM_len]; omega
  by_cases hlt : m < k + 1
  · repeat' (first
      | ((apply al_none (t := 18); refine JL_o (by apply as_buildSlice; exact OpR_buildSlice hs rfl (by omega) rfl) rfl rfl ?_; rintro _ _ ⟨b18, rfl, hb18, hs, hE⟩; have hs := hs.toRow 0 1 1 2 (xs := cSp [(0, 0)]) (Nat.le_refl _) (by unfold maxLen; omega) (by decide) rfl))
      | ((apply al_none; refine JL_o (by apply as_b_append; exact OpR_append (xs := cSp (growM xs m)) hs rfl rfl (RowV.srcN (hs.row (some ⟨b18, 0, none⟩) 1 1) (encL_one (d := dSp) _)) (fun _ => (hs.row (some ⟨b18, 0, none⟩) 1 1).plain) rfl (by omega) (by unfold maxLen; omega)) rfl rfl ?_; rintro _ _ ⟨a4, c4, rfl, hs, hF, hnil⟩))
      | (apply JL_nil)
      | ((apply JL_pure); (first
      | (apply as_move; exact OpR_move rfl is_rfl)
      | (apply as_assign; exact OpR_assign rfl is_rfl)
      | (apply as_binOp; exact OpR_ibin rfl rfl rfl is_rfl)
      | (apply as_b_len; exact OpR_len rfl is_rfl)
      | (apply as_build; exact OpR_build rfl (by (simp only [bld, placesOf, splice, Value.cells, List.take_succ_cons, List.take_zero, List.drop_succ_cons, List.drop_zero, List.cons_append, List.nil_append, List.length_cons, List.length_nil, List.getElem?_cons_zero, List.getElem?_cons_succ, Option.map_some, List.append_nil, Nat.reduceAdd, Nat.reduceMul, Nat.zero_add, Nat.reduceLeDiff, and_self, if_true, List.toList_toArray, Nat.le_refl, Nat.zero_mul, Nat.one_mul]; first | done | rfl)) is_rfl)); first | (exact rfl; exact rfl) | exact rfl)
      | (apply J_seq)
      | (apply J_region)
      | (apply J_block)
      | (apply J_inBlock)
      | (apply J_skip)
      | (apply aj_cond; refine J_dec_t rfl (by first | assumption | omega) ?_))
    rw [← cSp_app, growM_step hm1] at hs
    refine ih (a4, m + 1, c4) _ _ ⟨by dsimp only; omega, by dsimp only; omega, hs.sel [1, 2, 3] (by decide)⟩ (by dsimp only; omega) (by repeat' (first | exact trivial | exact rfl | apply And.intro))
  · have hmm : m = (putM xs (k + 1) (s1, s2)).length := by unfold putM; rw [List.length_set, growM_len]; omega
    obtain ⟨b2, o2, rfl⟩ := (hs.row a3 m c3).some (by omega)
    have hgm : growM xs m = growM xs (k + 1) := by
      rcases hm2 with h | h
      · rw [h, hge]; unfold growM; rw [show k + 1 - xs.length = 0 by omega]; simp
      · rw [show m = k + 1 by omega]
    have hput : splice (cSp (growM xs m)) (k * 2) [.int .i64 s1, .int .i64 s2] = cSp (putM xs (k + 1) (s1, s2)) := by
      unfold putM
      rw [hgm, Nat.add_sub_cancel, cSp_set _ _ _ (by rw [growM_len]; omega)]
    repeat' (first
      | ((apply al_none; refine JL_pure (v := .int .i64 (k : Int)) (by apply as_sub; exact OpR_sub rfl rfl (by omega) (by rw [e2]; exact is_rfl)) rfl rfl ?_))
      | ((apply al_unit; refine JL_u (by apply as_store; exact OpR_storeN (b := b2) (o := o2) (off := k * 2) (n := m) (c := c3) (vs := [.int .i64 s1, .int .i64 s2]) hs rfl rfl rfl rfl (by simp [Value.oneCell']) (by show k * 2 + 2 ≤ m * 2; omega)) rfl ?_; rintro _ _ ⟨hs, hF⟩; rw [hput] at hs))
      | (apply JL_nil)
      | ((apply JL_pure); (first
      | (apply as_move; exact OpR_move rfl is_rfl)
      | (apply as_load; exact OpR_load_agg' hs rfl is_rfl)
      | (apply as_binOp; exact OpR_ibin rfl rfl rfl is_rfl)
      | (apply as_b_len; exact OpR_len rfl is_rfl)
      | (apply as_indexAddr; exact OpR_indexAddr rfl rfl (by omega) (by omega) is_rfl)); first | (exact rfl; exact rfl) | exact rfl)
      | (apply J_seq)
      | (apply J_region)
      | (apply J_block)
      | (apply aj_exit; refine J_exit rfl ?_)
      | (apply aj_cond; refine J_dec_f rfl (by first | assumption | omega) ?_))
    obtain ⟨ys, hys⟩ : ∃ ys, ys = putM xs (k + 1) (s1, s2) := ⟨_, rfl⟩
    rw [← hys] at hs hmm ⊢
    have hyt : ys.take m = ys := List.take_of_length_le (by omega)
    refine J_loopK (α := Nat) [(6, _)] (fun q => [(7, .slice (some ⟨b2, o2, none⟩) q c3)]) (fun q w' => St w NoF w' [Row (some ⟨b2, o2, none⟩) q c3 34 2 (cSp (ys.take q)), Blk b6 (.cells #[.slice none 0 0] 24 (0, 0))] ∧ q ≤ ys.length ∧ trimN t0B ys ys.length = trimN t0B ys q) (fun q => q) m ⟨by rw [hyt]; exact hs.sel [0, 1] (by decide), by omega, by rw [hmm]⟩ (by repeat' (first | exact trivial | exact rfl | apply And.intro)) ?_
    rintro q w2 ⟨hs, hq, hT⟩ ih2
    have hcc := (hs.row (some ⟨b2, o2, none⟩) q c3).2.1
    have hcm := (hs.row (some ⟨b2, o2, none⟩) q c3).2.2.1
    unfold maxLen at hcm
    cases q with
    | zero =>
      have hL : (trimM t0B ys).length = 0 := by rw [trimM_len, hT]; rfl
      have hL2 : trimM t0B ys = ys.take 0 := by unfold trimM; rw [hT]; rfl
      rw [hL, hL2]
      repeat' (first
        | (apply JL_nil)
        | ((apply JL_pure); (first
      | (apply as_move; exact OpR_move rfl is_rfl)
      | (apply as_binOp; exact OpR_ibin rfl rfl rfl is_rfl)
      | (apply as_pick; exact OpR_pick_f rfl (by first | assumption | rfl | exact decide_eq_true (by first | assumption | omega) | exact decide_eq_false (by first | assumption | omega)) rfl is_rfl)
      | (apply as_b_len; exact OpR_len rfl is_rfl)
      | (apply as_build; exact OpR_build rfl (by (simp only [bld, placesOf, splice, Value.cells, List.take_succ_cons, List.take_zero, List.drop_succ_cons, List.drop_zero, List.cons_append, List.nil_append, List.length_cons, List.length_nil, List.getElem?_cons_zero, List.getElem?_cons_succ, Option.map_some, List.append_nil, Nat.reduceAdd, Nat.reduceMul, Nat.zero_add, Nat.reduceLeDiff, and_self, if_true, List.toList_toArray, Nat.le_refl, Nat.zero_mul, Nat.one_mul]; first | done | rfl)) is_rfl)); first | (exact rfl; exact rfl) | exact rfl)
        | (apply J_seq)
        | (apply J_region)
        | (apply aj_exit; refine J_exit rfl ?_)
        | (apply al_unit; refine JL_u (by apply as_store; exact OpR_store' hs rfl rfl rfl) rfl ?_; rintro _ _ ⟨hs, hF⟩)
        | (apply al_guard; (refine JL_no rfl (by first | assumption | rfl | exact decide_eq_true (by first | assumption | omega) | exact decide_eq_false (by first | assumption | omega)) rfl ?_))
        | (apply aj_cond; refine J_cond_f rfl (by first | assumption | rfl | exact decide_eq_true (by first | assumption | omega) | exact decide_eq_false (by first | assumption | omega)) ?_))
      refine J_leave Tryd.func42 rfl (.agg' hs rfl rfl .nil) ⟨_, _, rfl, hs.out (.cons_cons _ (List.nil_sublist _))⟩
    | succ q =>
      have e3 : ((q + 1 : Nat) : Int) - 1 = (q : Int) := by omega
      have hy : ys[q]? = some (ys.getD q (0, 0)) := by rw [List.getD_eq_getElem?_getD, List.getElem?_eq_getElem (by omega)]; rfl
      obtain ⟨y, hyd⟩ : ∃ y, y = ys.getD q (0, 0) := ⟨_, rfl⟩
      rw [← hyd] at hy
      have hcell : (cSp (ys.take (q + 1)))[q * 2]? = some (.int .i64 y.1) := by
        have := encL_get (d := dSp) (ys.take (q + 1)) q 0 y (by rw [List.getElem?_take, if_pos (by omega)]; exact hy) (by decide)
        exact this
      have hstep : trimN t0B ys (q + 1) = if t0B y then trimN t0B ys q else q + 1 := by rw [trimN, hyd]
      by_cases hz : y.1 = 0
      · have hb : t0B y = true := decide_eq_true hz
        rw [hb, if_pos rfl] at hstep
        repeat' (first
          | ((refine JL_pure_on (v := .int .i64 (q : Int)) rfl (by first | assumption | rfl | exact decide_eq_true (by first | assumption | omega) | exact decide_eq_false (by first | assumption | omega)) (by apply as_sub; exact OpR_sub rfl rfl (by omega) (by rw [e3]; exact is_rfl)) rfl rfl ?_))
          | ((apply al_none; refine JL_pure (v := .int .i64 (q : Int)) (by apply as_sub; exact OpR_sub rfl rfl (by omega) (by rw [e3]; exact is_rfl)) rfl rfl ?_))
          | ((apply al_none; refine JL_pure (v := .slice (some ⟨b2, o2, none⟩) q c3) (by apply as_slice; exact OpR_slice (kl := .i64) (km := .i64) (a' := some ⟨b2, o2, none⟩) (m := c3) (h := (q : Nat)) rfl (.inl ⟨rfl, rfl⟩) (.inr ⟨_, rfl, rfl⟩) (.inl ⟨rfl, rfl⟩) (by omega) (by omega) (by omega) (by omega) (by split; rfl; exact addr_add02 _) (by rw [Int.sub_zero, Int.sub_zero, Int.toNat_natCast, Int.toNat_natCast]; exact is_rfl)) rfl rfl ?_))
          | (apply JL_nil)
          | ((first | (apply JL_pure) | (apply JL_pure_on; exact rfl; (first | assumption | exact rfl | exact decide_eq_true (by first | assumption | omega) | exact decide_eq_false (by first | assumption | omega)))); (first
      | (apply as_load; exact OpR_load1N (b := b2) (o := o2) (off := q * 2) (n := q + 1) (c := c3) hs rfl hcell is_rfl)
      | (apply as_move; exact OpR_move rfl is_rfl)
      | (apply as_assign; exact OpR_assign rfl is_rfl)
      | (apply as_fieldAddr; exact OpR_fieldAddr rfl rfl is_rfl)
      | (apply as_binOp; exact OpR_ibin rfl rfl rfl is_rfl)
      | (apply as_pick; exact OpR_pick_t rfl (by first | assumption | rfl | exact decide_eq_true (by first | assumption | omega) | exact decide_eq_false (by first | assumption | omega)) rfl is_rfl)
      | (apply as_b_len; exact OpR_len rfl is_rfl)
      | (apply as_indexAddr; exact OpR_indexAddr rfl rfl (by omega) (by omega) is_rfl)); first | (exact rfl; exact rfl) | exact rfl)
          | (apply J_seq)
          | (apply J_region)
          | (apply J_block)
          | (apply J_inBlock)
          | (apply J_skip)
          | (apply aj_cond; refine J_dec_t rfl (by first | assumption | omega) ?_))
        have hs := hs.cutRow q c3 (by omega) (by omega) (Nat.le_refl _)
        have ec : (cSp (ys.take (q + 1))).take (q * 2) = cSp (ys.take q) := by
          have := encL_take (d := dSp) (ys.take (q + 1)) q
          rw [List.take_take, Nat.min_eq_left (by omega)] at this
          exact this.symm
        rw [ec] at hs
        refine ih2 q _ _ ⟨hs, by omega, by rw [hT, hstep]⟩ (by omega) (by repeat' (first | exact trivial | exact rfl | apply And.intro))
      · have hb : t0B y = false := decide_eq_false hz
        rw [hb] at hstep
        have hL : (trimM t0B ys).length = q + 1 := by rw [trimM_len, hT, hstep]; rfl
        have hL2 : trimM t0B ys = ys.take (q + 1) := by unfold trimM; rw [hT, hstep]; rfl
        rw [hL, hL2]
        repeat' (first
          | ((refine JL_pure_on (v := .int .i64 (q : Int)) rfl (by first | assumption | rfl | exact decide_eq_true (by first | assumption | omega) | exact decide_eq_false (by first | assumption | omega)) (by apply as_sub; exact OpR_sub rfl rfl (by omega) (by rw [e3]; exact is_rfl)) rfl rfl ?_))
          | (apply JL_nil)
          | ((first | (apply JL_pure) | (apply JL_pure_on; exact rfl; (first | assumption | exact rfl | exact decide_eq_true (by first | assumption | omega) | exact decide_eq_false (by first | assumption | omega)))); (first
      | (apply as_load; exact OpR_load1N (b := b2) (o := o2) (off := q * 2) (n := q + 1) (c := c3) hs rfl hcell is_rfl)
      | (apply as_move; exact OpR_move rfl is_rfl)
      | (apply as_fieldAddr; exact OpR_fieldAddr rfl rfl is_rfl)
      | (apply as_binOp; exact OpR_ibin rfl rfl rfl is_rfl)
      | (apply as_pick; exact OpR_pick_t rfl (by first | assumption | rfl | exact decide_eq_true (by first | assumption | omega) | exact decide_eq_false (by first | assumption | omega)) rfl is_rfl)
      | (apply as_b_len; exact OpR_len rfl is_rfl)
      | (apply as_indexAddr; exact OpR_indexAddr rfl rfl (by omega) (by omega) is_rfl)
      | (apply as_build; exact OpR_build rfl (by (simp only [bld, placesOf, splice, Value.cells, List.take_succ_cons, List.take_zero, List.drop_succ_cons, List.drop_zero, List.cons_append, List.nil_append, List.length_cons, List.length_nil, List.getElem?_cons_zero, List.getElem?_cons_succ, Option.map_some, List.append_nil, Nat.reduceAdd, Nat.reduceMul, Nat.zero_add, Nat.reduceLeDiff, and_self, if_true, List.toList_toArray, Nat.le_refl, Nat.zero_mul, Nat.one_mul]; first | done | rfl)) is_rfl)); first | (exact rfl; exact rfl) | exact rfl)
          | (apply J_seq)
          | (apply J_region)
          | (apply aj_exit; refine J_exit rfl ?_)
          | (apply al_unit; refine JL_u (by apply as_store; exact OpR_store' hs rfl rfl rfl) rfl ?_; rintro _ _ ⟨hs, hF⟩)
          | (apply aj_cond; refine J_dec_f rfl (by first | assumption | omega) ?_))
        refine J_leave Tryd.func42 rfl (.agg' hs rfl rfl .nil) ⟨_, _, rfl, hs.out (.cons_cons _ (List.nil_sublist _))⟩
end Go.Eng
/- Record: the reference's Drop. -/
namespace Go.Eng
open Go.Proofs
attribute [local irreducible] J JL JD JX JXat OpR OpG Ret RetV Is Blk Row MapC
set_option maxRecDepth 100000
set_option maxHeartbeats 1000000
set_option linter.unusedSimpArgs false
set_option linter.unusedVariables false
def dropRM (xs : List Sp) (i : Int) : List Sp × Int := if (atM xs i).1 = 0 then ([], 4) else (trimM t0B (putM xs i.toNat (0, 0)), 0)
theorem refDrop_r (w : World) (a : Option Addr) (n c : Nat) (xs : List Sp) (i : Int) (hi : inK .i64 i) (h : Sl dSp All w a n c xs) (hn2 : n ≤ 1048578) :
    Ret Tryd.prog 24 #[.agg #[.slice a n c], .int .i64 i] w fun v w' => ∃ a' c', v = .tuple #[.agg #[.slice a' (dropRM xs i).1.length c'], .int .i64 (dropRM xs i).2] ∧ Fresh w w' [Row a' (dropRM xs i).1.length c' 34 2 (cSp (dropRM xs i).1)] := by
  refine Ret_of (l := [_, _]) Tryd.func24 rfl Tryd.ntmps24 (by simp) ?_
  have hs := St.init w
  have hl := h.len
  by_cases hz : (atM xs i).1 = 0
  · have hd : dropRM xs i = ([], 4) := by unfold dropRM; rw [if_pos hz]
    rw [hd]
    repeat' (first
      | ((apply al_call 16; refine JL_o (by exact OpR_callF en16 rfl (refAt_r _ a n c xs i (h.st hs) hi)) rfl rfl ?_; rintro _ _ ⟨rfl, hE⟩; have hs := hs.ext hE; (try simp only [List.cons_append, List.nil_append] at hs)))
      | (apply JL_nil)
      | ((apply JL_pure); (first
      | (apply as_move; exact OpR_move rfl is_rfl)
      | (apply as_assign; exact OpR_assign rfl is_rfl)
      | (apply as_load; exact OpR_load_agg' hs rfl is_rfl)
      | (apply as_binOp; exact OpR_ibin rfl rfl rfl is_rfl)
      | (apply as_field; exact OpR_field rfl rfl rfl is_rfl)
      | (apply as_build; exact OpR_build rfl (by (simp only [bld, placesOf, splice, Value.cells, List.take_succ_cons, List.take_zero, List.drop_succ_cons, List.drop_zero, List.cons_append, List.nil_append, List.length_cons, List.length_nil, List.getElem?_cons_zero, List.getElem?_cons_succ, Option.map_some, List.append_nil, Nat.reduceAdd, Nat.reduceMul, Nat.zero_add, Nat.reduceLeDiff, and_self, if_true, List.toList_toArray, Nat.le_refl, Nat.zero_mul, Nat.one_mul]; first | done | rfl)) is_rfl)); first | (exact rfl; exact rfl) | exact rfl)
      | (apply J_seq)
      | (apply J_region)
      | (apply al_none (t := 2); refine JL_o (by apply as_box; exact OpR_box' hs rfl) rfl rfl ?_; rintro _ _ ⟨b2, rfl, hb2, hs, hE⟩)
      | (apply al_none (t := 4); refine JL_o (by apply as_alloc; exact OpR_alloc' hs) rfl rfl ?_; rintro _ _ ⟨b4, rfl, hb4, hs, hE⟩)
      | (apply al_unit; refine JL_u (by apply as_store; exact OpR_store' hs rfl rfl rfl) rfl ?_; rintro _ _ ⟨hs, hF⟩)
      | (apply aj_cond; refine J_dec_t rfl (by first | assumption | omega) ?_))
    have hs := hs.nilRow 34 2
    refine J_leave Tryd.func24 rfl (.agg' hs rfl rfl (.tmp rfl .nil)) ⟨_, _, rfl, hs.out (.cons_cons _ (List.nil_sublist _))⟩
  · have hd : dropRM xs i = (trimM t0B (putM xs i.toNat (0, 0)), 0) := by unfold dropRM; rw [if_neg hz]
    rw [hd]
    have hin : 1 ≤ i ∧ i ≤ xs.length := by
      have : ¬ ¬ (1 ≤ i ∧ i ≤ (xs.length : Int)) := fun hn => hz (by unfold atM; rw [if_neg hn])
      exact Decidable.not_not.1 this
    obtain ⟨k, rfl⟩ : ∃ k : Nat, i = k := ⟨i.toNat, by omega⟩
    rw [Int.toNat_natCast]
    repeat' (first
      | ((apply al_call 16; refine JL_o (by exact OpR_callF en16 rfl (refAt_r _ a n c xs k (h.st hs) hi)) rfl rfl ?_; rintro _ _ ⟨rfl, hE⟩; have hs := hs.ext hE; (try simp only [List.cons_append, List.nil_append] at hs)))
      | ((apply al_call 42; refine JL_o (by exact OpR_callF en42 rfl (with_r _ a n c xs k 0 0 (by omega) (h.st hs) (by omega))) rfl rfl ?_; rintro _ _ ⟨az, cz, rfl, hf⟩; have hs := hs.fresh hf; (try simp only [List.cons_append, List.nil_append] at hs)))
      | (apply JL_nil)
      | ((apply JL_pure); (first
      | (apply as_move; exact OpR_move rfl is_rfl)
      | (apply as_assign; exact OpR_assign rfl is_rfl)
      | (apply as_load; exact OpR_load_agg' hs rfl is_rfl)
      | (apply as_binOp; exact OpR_ibin rfl rfl rfl is_rfl)
      | (apply as_field; exact OpR_field rfl rfl rfl is_rfl)
      | (apply as_build; exact OpR_build rfl (by (simp only [bld, placesOf, splice, Value.cells, List.take_succ_cons, List.take_zero, List.drop_succ_cons, List.drop_zero, List.cons_append, List.nil_append, List.length_cons, List.length_nil, List.getElem?_cons_zero, List.getElem?_cons_succ, Option.map_some, List.append_nil, Nat.reduceAdd, Nat.reduceMul, Nat.zero_add, Nat.reduceLeDiff, and_self, if_true, List.toList_toArray, Nat.le_refl, Nat.zero_mul, Nat.one_mul]; first | done | rfl)) is_rfl)); first | (exact rfl; exact rfl) | exact rfl)
      | (apply J_seq)
      | (apply J_region)
      | (apply J_skip)
      | (apply al_none (t := 2); refine JL_o (by apply as_box; exact OpR_box' hs rfl) rfl rfl ?_; rintro _ _ ⟨b2, rfl, hb2, hs, hE⟩)
      | (apply al_none (t := 4); refine JL_o (by apply as_alloc; exact OpR_alloc' hs) rfl rfl ?_; rintro _ _ ⟨b4, rfl, hb4, hs, hE⟩)
      | (apply al_unit; refine JL_u (by apply as_store; exact OpR_store' hs rfl rfl rfl) rfl ?_; rintro _ _ ⟨hs, hF⟩)
      | (apply aj_cond; refine J_dec_f rfl (by first | assumption | omega) ?_))
    refine J_leave Tryd.func24 rfl (.agg' hs rfl rfl (.tmp rfl .nil)) ⟨_, _, rfl, hs.out (.cons_cons _ (List.nil_sublist _))⟩
end Go.Eng
/- Record: the reference's Put. -/
namespace Go.Eng
open Go.Proofs
def putBad (i : Int) (s : Sp) : Prop := i < 1 ∨ 1048578 < i ∨ spotR s = false ∨ s.1 = 0
instance (i : Int) (s : Sp) : Decidable (putBad i s) := by unfold putBad; infer_instance
def putRM (xs : List Sp) (i : Int) (s : Sp) : List Sp × Int := if putBad i s then ([], 2) else if 0 < refWhoM xs s ∧ (refWhoM xs s : Int) ≠ i then ([], 5) else (trimM t0B (putM xs i.toNat s), 0)
attribute [local irreducible] J JL JD JX JXat OpR OpG Ret RetV Is Blk Row MapC
set_option maxRecDepth 100000
set_option maxHeartbeats 1000000
set_option linter.unusedSimpArgs false
set_option linter.unusedVariables false
theorem refPut_r (w : World) (a : Option Addr) (n c : Nat) (xs : List Sp) (i s1 s2 : Int) (hi : inK .i64 i) (h : Sl dSp All w a n c xs) (hn2 : n ≤ 1048578) :
    Ret Tryd.prog 22 #[.agg #[.slice a n c], .int .i64 i, .agg #[.int .i64 s1, .int .i64 s2]] w fun v w' => ∃ a' c', v = .tuple #[.agg #[.slice a' (putRM xs i (s1, s2)).1.length c'], .int .i64 (putRM xs i (s1, s2)).2] ∧ Fresh w w' [Row a' (putRM xs i (s1, s2)).1.length c' 34 2 (cSp (putRM xs i (s1, s2)).1)] := by
  refine Ret_of (l := [_, _, _]) Tryd.func22 rfl Tryd.ntmps22 (by simp) ?_
  have hs := St.init w
  have hl := h.len
  by_cases hb : putBad i (s1, s2)
  · have hd : putRM xs i (s1, s2) = ([], 2) := by unfold putRM; rw [if_pos hb]
    rw [hd]
    have hb2 : i < 1 ∨ (¬ i < 1 ∧ 1048578 < i) ∨ (¬ i < 1 ∧ ¬ 1048578 < i ∧ (!spotR (s1, s2)) = true) ∨ (¬ i < 1 ∧ ¬ 1048578 < i ∧ (!spotR (s1, s2)) = false ∧ s1 = 0) := by
      unfold putBad at hb
      by_cases q1 : i < 1
      · exact .inl q1
      · by_cases q2 : 1048578 < i
        · exact .inr (.inl ⟨q1, q2⟩)
        · cases q3 : spotR (s1, s2) with
          | false => exact .inr (.inr (.inl ⟨q1, q2, rfl⟩))
          | true =>
            rw [q3] at hb
            refine .inr (.inr (.inr ⟨q1, q2, rfl, ?_⟩))
            rcases hb with hb | hb | hb | hb
            · exact absurd hb q1
            · exact absurd hb q2
            · cases hb
            · exact hb
    rcases hb2 with h1 | ⟨h1, h2⟩ | ⟨h1, h2, h3⟩ | ⟨h1, h2, h3, h4⟩
    all_goals
      repeat' (first
        | ((apply al_call 20; refine JL_o (by exact OpR_callF en20 rfl (refWho_r _ a n c xs s1 s2 (h.st hs))) rfl rfl ?_; rintro _ _ ⟨rfl, hE⟩; have hs := hs.ext hE; (try simp only [List.cons_append, List.nil_append] at hs)))
        | ((apply al_callg 32; refine JL_o_on rfl (by first | assumption | rfl | exact decide_eq_true (by first | assumption | omega) | exact decide_eq_false (by first | assumption | omega)) (by exact OpR_callF en32 rfl (spotR_r _ s1 s2)) rfl rfl ?_; rintro _ _ ⟨rfl, hE⟩; have hs := hs.ext hE; (try simp only [List.cons_append, List.nil_append] at hs)))
        | (apply JL_nil)
        | ((first | (apply JL_pure) | (apply JL_pure_on; exact rfl; (first | assumption | exact rfl | exact decide_eq_true (by first | assumption | omega) | exact decide_eq_false (by first | assumption | omega)))); (first
      | (apply as_move; exact OpR_move rfl is_rfl)
      | (apply as_assign; exact OpR_assign rfl is_rfl)
      | (apply as_fieldAddr; exact OpR_fieldAddr0 rfl rfl is_rfl)
      | (apply as_load; first | exact OpR_load' hs rfl rfl is_rfl | exact OpR_load_agg' hs rfl is_rfl)
      | (apply as_binOp; exact OpR_ibin rfl rfl rfl is_rfl)
      | (apply as_unOp; exact OpR_not rfl is_rfl)
      | (apply as_pick; first | exact OpR_pick_t rfl (by first | assumption | rfl | exact decide_eq_true (by first | assumption | omega) | exact decide_eq_false (by first | assumption | omega)) rfl is_rfl | exact OpR_pick_f rfl (by first | assumption | rfl | exact decide_eq_true (by first | assumption | omega) | exact decide_eq_false (by first | assumption | omega)) rfl is_rfl)
      | (apply as_build; exact OpR_build rfl (by (simp only [bld, placesOf, splice, Value.cells, List.take_succ_cons, List.take_zero, List.drop_succ_cons, List.drop_zero, List.cons_append, List.nil_append, List.length_cons, List.length_nil, List.getElem?_cons_zero, List.getElem?_cons_succ, Option.map_some, List.append_nil, Nat.reduceAdd, Nat.reduceMul, Nat.zero_add, Nat.reduceLeDiff, and_self, if_true, List.toList_toArray, Nat.le_refl, Nat.zero_mul, Nat.one_mul]; first | done | rfl)) is_rfl)); first | (exact rfl; exact rfl) | exact rfl)
        | (apply J_seq)
        | (apply J_region)
        | (apply J_block)
        | (apply al_none (t := 3); refine JL_o (by apply as_box; exact OpR_box' hs rfl) rfl rfl ?_; rintro _ _ ⟨b3, rfl, hb3, hs, hE⟩)
        | (apply al_none (t := 5); refine JL_o (by apply as_box; exact OpR_box' hs rfl) rfl rfl ?_; rintro _ _ ⟨b5, rfl, hb5, hs, hE⟩)
        | (apply al_none (t := 6); refine JL_o (by apply as_alloc; exact OpR_alloc' hs) rfl rfl ?_; rintro _ _ ⟨b6, rfl, hb6, hs, hE⟩)
        | (apply al_unit; refine JL_u (by apply as_store; exact OpR_store' hs rfl rfl rfl) rfl ?_; rintro _ _ ⟨hs, hF⟩)
        | (apply al_guard; (refine JL_no rfl (by first | assumption | rfl | exact decide_eq_true (by first | assumption | omega) | exact decide_eq_false (by first | assumption | omega)) rfl ?_))
        | (apply aj_cond; first | refine J_dec_t rfl (by first | assumption | omega) ?_ | refine J_cond_t rfl (by first | assumption | rfl | exact decide_eq_true (by first | assumption | omega) | exact decide_eq_false (by first | assumption | omega)) ?_))
      have hs := hs.nilRow 34 2
      refine J_leave Tryd.func22 rfl (.agg' hs rfl rfl (.tmp rfl .nil)) ⟨_, _, rfl, hs.out (.cons_cons _ (List.nil_sublist _))⟩
  · have hbn : ¬ i < 1 ∧ ¬ 1048578 < i ∧ (!spotR (s1, s2)) = false ∧ ¬ s1 = 0 := by
      unfold putBad at hb
      refine ⟨fun q => hb (.inl q), fun q => hb (.inr (.inl q)), ?_, fun q => hb (.inr (.inr (.inr q)))⟩
      cases q3 : spotR (s1, s2) with
      | false => exact absurd (.inr (.inr (.inl q3))) hb
      | true => rfl
    obtain ⟨h1, h2, h3, h4⟩ := hbn
    by_cases hw : 0 < refWhoM xs (s1, s2) ∧ (refWhoM xs (s1, s2) : Int) ≠ i
    · have hd : putRM xs i (s1, s2) = ([], 5) := by unfold putRM; rw [if_neg hb, if_pos hw]
      rw [hd]
      obtain ⟨hw1, hw2⟩ := hw
      repeat' (first
        | ((apply al_call 20; refine JL_o (by exact OpR_callF en20 rfl (refWho_r _ a n c xs s1 s2 (h.st hs))) rfl rfl ?_; rintro _ _ ⟨rfl, hE⟩; have hs := hs.ext hE; (try simp only [List.cons_append, List.nil_append] at hs)))
        | ((apply al_callg 32; refine JL_o_on rfl (by first | assumption | rfl | exact decide_eq_true (by first | assumption | omega) | exact decide_eq_false (by first | assumption | omega)) (by exact OpR_callF en32 rfl (spotR_r _ s1 s2)) rfl rfl ?_; rintro _ _ ⟨rfl, hE⟩; have hs := hs.ext hE; (try simp only [List.cons_append, List.nil_append] at hs)))
        | (apply JL_nil)
        | ((first | (apply JL_pure) | (apply JL_pure_on; exact rfl; (first | assumption | exact rfl | exact decide_eq_true (by first | assumption | omega) | exact decide_eq_false (by first | assumption | omega)))); (first
      | (apply as_move; exact OpR_move rfl is_rfl)
      | (apply as_assign; exact OpR_assign rfl is_rfl)
      | (apply as_fieldAddr; exact OpR_fieldAddr0 rfl rfl is_rfl)
      | (apply as_load; first | exact OpR_load' hs rfl rfl is_rfl | exact OpR_load_agg' hs rfl is_rfl)
      | (apply as_binOp; exact OpR_ibin rfl rfl rfl is_rfl)
      | (apply as_unOp; exact OpR_not rfl is_rfl)
      | (apply as_pick; first | exact OpR_pick_t rfl (by first | assumption | rfl | exact decide_eq_true (by first | assumption | omega) | exact decide_eq_false (by first | assumption | omega)) rfl is_rfl | exact OpR_pick_f rfl (by first | assumption | rfl | exact decide_eq_true (by first | assumption | omega) | exact decide_eq_false (by first | assumption | omega)) rfl is_rfl)
      | (apply as_build; exact OpR_build rfl (by (simp only [bld, placesOf, splice, Value.cells, List.take_succ_cons, List.take_zero, List.drop_succ_cons, List.drop_zero, List.cons_append, List.nil_append, List.length_cons, List.length_nil, List.getElem?_cons_zero, List.getElem?_cons_succ, Option.map_some, List.append_nil, Nat.reduceAdd, Nat.reduceMul, Nat.zero_add, Nat.reduceLeDiff, and_self, if_true, List.toList_toArray, Nat.le_refl, Nat.zero_mul, Nat.one_mul]; first | done | rfl)) is_rfl)); first | (exact rfl; exact rfl) | exact rfl)
        | (apply J_seq)
        | (apply J_region)
        | (apply J_block)
        | (apply al_none (t := 3); refine JL_o (by apply as_box; exact OpR_box' hs rfl) rfl rfl ?_; rintro _ _ ⟨b3, rfl, hb3, hs, hE⟩)
        | (apply al_none (t := 5); refine JL_o (by apply as_box; exact OpR_box' hs rfl) rfl rfl ?_; rintro _ _ ⟨b5, rfl, hb5, hs, hE⟩)
        | (apply al_none (t := 6); refine JL_o (by apply as_alloc; exact OpR_alloc' hs) rfl rfl ?_; rintro _ _ ⟨b6, rfl, hb6, hs, hE⟩)
        | (apply al_unit; refine JL_u (by apply as_store; exact OpR_store' hs rfl rfl rfl) rfl ?_; rintro _ _ ⟨hs, hF⟩)
        | (apply aj_cond; first | refine J_dec_t rfl (by first | assumption | omega) ?_ | refine J_dec_f rfl (by first | assumption | omega) ?_))
      have hs := hs.nilRow 34 2
      refine J_leave Tryd.func22 rfl (.agg' hs rfl rfl (.tmp rfl .nil)) ⟨_, _, rfl, hs.out (.cons_cons _ (List.nil_sublist _))⟩
    · have hd : putRM xs i (s1, s2) = (trimM t0B (putM xs i.toNat (s1, s2)), 0) := by unfold putRM; rw [if_neg hb, if_neg hw]
      rw [hd]
      obtain ⟨k, rfl⟩ : ∃ k : Nat, i = k := ⟨i.toNat, by omega⟩
      rw [Int.toNat_natCast]
      obtain hw1 | hw1 : ¬ 0 < refWhoM xs (s1, s2) ∨ (0 < refWhoM xs (s1, s2) ∧ (refWhoM xs (s1, s2) : Int) = k) := by omega
      all_goals
        repeat' (first
          | ((apply al_call 20; refine JL_o (by exact OpR_callF en20 rfl (refWho_r _ a n c xs s1 s2 (h.st hs))) rfl rfl ?_; rintro _ _ ⟨rfl, hE⟩; have hs := hs.ext hE; (try simp only [List.cons_append, List.nil_append] at hs)))
          | ((apply al_callg 32; refine JL_o_on rfl (by first | assumption | rfl | exact decide_eq_true (by first | assumption | omega) | exact decide_eq_false (by first | assumption | omega)) (by exact OpR_callF en32 rfl (spotR_r _ s1 s2)) rfl rfl ?_; rintro _ _ ⟨rfl, hE⟩; have hs := hs.ext hE; (try simp only [List.cons_append, List.nil_append] at hs)))
          | ((apply al_call 42; refine JL_o (by exact OpR_callF en42 rfl (with_r _ a n c xs k s1 s2 (by omega) (h.st hs) (by omega))) rfl rfl ?_; rintro _ _ ⟨az, cz, rfl, hf⟩; have hs := hs.fresh hf; (try simp only [List.cons_append, List.nil_append] at hs)))
          | (apply JL_nil)
          | ((first | (apply JL_pure) | (apply JL_pure_on; exact rfl; (first | assumption | exact rfl | exact decide_eq_true (by first | assumption | omega) | exact decide_eq_false (by first | assumption | omega)))); (first
      | (apply as_move; exact OpR_move rfl is_rfl)
      | (apply as_assign; exact OpR_assign rfl is_rfl)
      | (apply as_fieldAddr; exact OpR_fieldAddr0 rfl rfl is_rfl)
      | (apply as_load; first | exact OpR_load' hs rfl rfl is_rfl | exact OpR_load_agg' hs rfl is_rfl)
      | (apply as_binOp; exact OpR_ibin rfl rfl rfl is_rfl)
      | (apply as_unOp; exact OpR_not rfl is_rfl)
      | (apply as_pick; first | exact OpR_pick_t rfl (by first | assumption | rfl | exact decide_eq_true (by first | assumption | omega) | exact decide_eq_false (by first | assumption | omega)) rfl is_rfl | exact OpR_pick_f rfl (by first | assumption | rfl | exact decide_eq_true (by first | assumption | omega) | exact decide_eq_false (by first | assumption | omega)) rfl is_rfl)); first | (exact rfl; exact rfl) | exact rfl)
          | (apply J_seq)
          | (apply J_region)
          | (apply J_block)
          | (apply J_inBlock)
          | (apply J_skip)
          | (apply al_none (t := 3); refine JL_o (by apply as_box; exact OpR_box' hs rfl) rfl rfl ?_; rintro _ _ ⟨b3, rfl, hb3, hs, hE⟩)
          | (apply al_none (t := 5); refine JL_o (by apply as_box; exact OpR_box' hs rfl) rfl rfl ?_; rintro _ _ ⟨b5, rfl, hb5, hs, hE⟩)
          | (apply al_none (t := 6); refine JL_o (by apply as_alloc; exact OpR_alloc' hs) rfl rfl ?_; rintro _ _ ⟨b6, rfl, hb6, hs, hE⟩)
          | (apply al_unit; refine JL_u (by apply as_store; exact OpR_store' hs rfl rfl rfl) rfl ?_; rintro _ _ ⟨hs, hF⟩)
          | (apply al_guard; (refine JL_no rfl (by first | assumption | rfl | exact decide_eq_true (by first | assumption | omega) | exact decide_eq_false (by first | assumption | omega)) rfl ?_))
          | (apply aj_cond; first | refine J_dec_f rfl (by first | assumption | omega) ?_ | refine J_cond_f rfl (by first | assumption | rfl | exact decide_eq_true (by first | assumption | omega) | exact decide_eq_false (by first | assumption | omega)) ?_))
        refine J_leave Tryd.func22 rfl (.agg' hs rfl rfl (.tmp rfl .nil)) ⟨_, _, rfl, hs.out (.cons_cons _ (List.nil_sublist _))⟩
end Go.Eng
/- Record: the reference's Swap. -/
namespace Go.Eng
open Go.Proofs
theorem putM_len (xs : List Sp) (i : Nat) (s : Sp) : (putM xs i s).length = max xs.length i := by unfold putM; rw [List.length_set, growM_len]
theorem trimM_le (p : Sp → Bool) (xs : List Sp) : (trimM p xs).length ≤ xs.length := by rw [trimM_len]; exact trimN_le p xs xs.length
theorem refWhoM_le (xs : List Sp) (s : Sp) : refWhoM xs s ≤ xs.length := by
  unfold refWhoM
  split
  · cases h : xs.findIdx? (fun y => decide (y = s)) with
    | none => simp
    | some i =>
      rw [List.findIdx?_eq_some_iff_getElem] at h
      exact h.1
  · omega
theorem mem_growM {xs : List Sp} {i : Nat} {s : Sp} (h : s ∈ growM xs i) : s ∈ xs ∨ s = (0, 0) := by
  unfold growM at h
  rcases List.mem_append.1 h with h | h
  · exact .inl h
  · exact .inr (List.mem_replicate.1 h).2
theorem mem_putM {xs : List Sp} {i : Nat} {s t : Sp} (h : t ∈ putM xs i s) : t ∈ xs ∨ t = (0, 0) ∨ t = s := by
  unfold putM at h
  rcases List.mem_or_eq_of_mem_set h with h | h
  · rcases mem_growM h with h | h
    · exact .inl h
    · exact .inr (.inl h)
  · exact .inr (.inr h)
theorem mem_trimM {p : Sp → Bool} {xs : List Sp} {t : Sp} (h : t ∈ trimM p xs) : t ∈ xs := List.mem_of_mem_take h
def okS (s : Sp) : Prop := inK .i64 s.1 ∧ inK .i64 s.2
theorem okS0 : okS (0, 0) := ⟨by simp [inK], by simp [inK]⟩
/-- A row of spots reads as them. -/
theorem RowV.sp {w : World} {a : Option Addr} {n c : Nat} {xs : List Sp} (h : RowV w a n c 34 2 (cSp xs)) (hk : ∀ s ∈ xs, okS s) : Sl dSp All w a n c xs := (RowV.slF (d := dSp) h (by decide) hk).weak (fun _ _ => trivial)
def swapRM (xs : List Sp) (i last : Int) : List Sp × Int :=
  if (atM xs i).1 = 0 then ([], 4) else
  if last < (atM xs i).2 ∨ refWhoM xs ((atM xs i).1, last) = 0 then ([], 2) else
  if xs.any (aboveB (atM xs i) last) then ([], 2) else
  if (refWhoM xs ((atM xs i).1, last) : Int) = i then (trimM t0B (putM xs i.toNat (0, 0)), 0) else
  (trimM t0B (putM (trimM t0B (putM xs i.toNat (0, 0))) (refWhoM xs ((atM xs i).1, last)) (atM xs i)), 0)
attribute [local irreducible] J JL JD JX JXat OpR OpG Ret RetV Is Blk Row MapC
set_option maxRecDepth 100000
set_option maxHeartbeats 1000000
set_option linter.unusedSimpArgs false
set_option linter.unusedVariables false
theorem refSwap_r (w : World) (a : Option Addr) (n c : Nat) (xs : List Sp) (i last : Int) (hi : inK .i64 i) (hla : inK .i64 last) (h : Sl dSp All w a n c xs) (hn2 : n ≤ 1048578) :
    Ret Tryd.prog 26 #[.agg #[.slice a n c], .int .i64 i, .int .i64 last] w fun v w' => ∃ a' c', v = .tuple #[.agg #[.slice a' (swapRM xs i last).1.length c'], .int .i64 (swapRM xs i last).2] ∧ Fresh w w' [Row a' (swapRM xs i last).1.length c' 34 2 (cSp (swapRM xs i last).1)] := by
  refine Ret_of (l := [_, _, _]) Tryd.func26 rfl Tryd.ntmps26 (by simp) ?_
  have hs := St.init w
  have hl := h.len
  have hc := h.le
  have hm := h.cap
  unfold maxLen at hm
  obtain ⟨s, hsd⟩ : ∃ s, s = atM xs i := ⟨_, rfl⟩
  have hsok : okS s := by rw [hsd]; exact atM_len h i
  by_cases hz : s.1 = 0
  · have hd : swapRM xs i last = ([], 4) := by unfold swapRM; rw [← hsd, if_pos hz]
    rw [hd]
    repeat' (first
      | ((apply al_call 16; refine JL_o (by exact OpR_callF en16 rfl (refAt_r _ a n c xs i (h.st hs) hi)) rfl rfl ?_; rintro _ _ ⟨rfl, hE⟩; have hs := hs.ext hE; rw [← hsd]; (try simp only [List.cons_append, List.nil_append] at hs)))
      | (apply JL_nil)
      | ((apply JL_pure); (first
      | (apply as_move; exact OpR_move rfl is_rfl)
      | (apply as_assign; exact OpR_assign rfl is_rfl)
      | (apply as_fieldAddr; exact OpR_fieldAddr0 rfl rfl is_rfl)
      | (apply as_load; first | exact OpR_load' hs rfl rfl is_rfl | exact OpR_load_agg' hs rfl is_rfl)
      | (apply as_binOp; exact OpR_ibin rfl rfl rfl is_rfl)
      | (apply as_build; exact OpR_build rfl (by (simp only [bld, placesOf, splice, Value.cells, List.take_succ_cons, List.take_zero, List.drop_succ_cons, List.drop_zero, List.cons_append, List.nil_append, List.length_cons, List.length_nil, List.getElem?_cons_zero, List.getElem?_cons_succ, Option.map_some, List.append_nil, Nat.reduceAdd, Nat.reduceMul, Nat.zero_add, Nat.reduceLeDiff, and_self, if_true, List.toList_toArray, Nat.le_refl, Nat.zero_mul, Nat.one_mul]; first | done | rfl)) is_rfl)); first | (exact rfl; exact rfl) | exact rfl)
      | (apply J_seq)
      | (apply J_region)
      | (apply al_none (t := 3); refine JL_o (by apply as_box; exact OpR_box' hs rfl) rfl rfl ?_; rintro _ _ ⟨b3, rfl, hb3, hs, hE⟩)
      | (apply al_none (t := 6); refine JL_o (by apply as_alloc; exact OpR_alloc' hs) rfl rfl ?_; rintro _ _ ⟨b6, rfl, hb6, hs, hE⟩)
      | (apply al_none (t := 8); refine JL_o (by apply as_alloc; exact OpR_alloc' hs) rfl rfl ?_; rintro _ _ ⟨b8, rfl, hb8, hs, hE⟩)
      | (apply al_unit; refine JL_u (by apply as_store; exact OpR_store' hs rfl rfl rfl) rfl ?_; rintro _ _ ⟨hs, hF⟩)
      | (apply aj_cond; refine J_dec_t rfl (by first | assumption | omega) ?_))
    have hs := hs.nilRow 34 2
    refine J_leave Tryd.func26 rfl (.agg' hs rfl rfl (.tmp rfl .nil)) ⟨_, _, rfl, hs.out (.cons_cons _ (List.nil_sublist _))⟩
  · by_cases hb : last < s.2 ∨ refWhoM xs (s.1, last) = 0
    · have hd : swapRM xs i last = ([], 2) := by unfold swapRM; rw [← hsd, if_neg hz, if_pos hb]
      rw [hd]
      have hb2 : last < s.2 ∨ (¬ last < s.2 ∧ refWhoM xs (s.1, last) = 0) := by
        by_cases q : last < s.2
        · exact .inl q
        · exact .inr ⟨q, hb.resolve_left q⟩
      rcases hb2 with h1 | ⟨h1, h2⟩
      all_goals
        repeat' (first
          | ((apply al_call 16; refine JL_o (by exact OpR_callF en16 rfl (refAt_r _ a n c xs i (h.st hs) hi)) rfl rfl ?_; rintro _ _ ⟨rfl, hE⟩; have hs := hs.ext hE; rw [← hsd]; (try simp only [List.cons_append, List.nil_append] at hs)))
          | ((apply al_call 20; refine JL_o (by exact OpR_callF en20 rfl (refWho_r _ a n c xs s.1 last (h.st hs))) rfl rfl ?_; rintro _ _ ⟨rfl, hE⟩; have hs := hs.ext hE; (try simp only [List.cons_append, List.nil_append] at hs)))
          | (apply JL_nil)
          | ((first | (apply JL_pure) | (apply JL_pure_on; exact rfl; (first | assumption | exact rfl | exact decide_eq_true (by first | assumption | omega) | exact decide_eq_false (by first | assumption | omega)))); (first
      | (apply as_move; exact OpR_move rfl is_rfl)
      | (apply as_assign; exact OpR_assign rfl is_rfl)
      | (apply as_fieldAddr; exact OpR_fieldAddr0 rfl rfl is_rfl)
      | (apply as_load; first | exact OpR_load' hs rfl rfl is_rfl | exact OpR_load_agg' hs rfl is_rfl)
      | (apply as_binOp; exact OpR_ibin rfl rfl rfl is_rfl)
      | (apply as_pick; first | exact OpR_pick_t rfl (by first | assumption | rfl | exact decide_eq_true (by first | assumption | omega) | exact decide_eq_false (by first | assumption | omega)) rfl is_rfl | exact OpR_pick_f rfl (by first | assumption | rfl | exact decide_eq_true (by first | assumption | omega) | exact decide_eq_false (by first | assumption | omega)) rfl is_rfl)
      | (apply as_build; exact OpR_build rfl (by (simp only [bld, placesOf, splice, Value.cells, List.take_succ_cons, List.take_zero, List.drop_succ_cons, List.drop_zero, List.cons_append, List.nil_append, List.length_cons, List.length_nil, List.getElem?_cons_zero, List.getElem?_cons_succ, Option.map_some, List.append_nil, Nat.reduceAdd, Nat.reduceMul, Nat.zero_add, Nat.reduceLeDiff, and_self, if_true, List.toList_toArray, Nat.le_refl, Nat.zero_mul, Nat.one_mul]; first | done | rfl)) is_rfl)); first | (exact rfl; exact rfl) | exact rfl)
          | (apply J_seq)
          | (apply J_region)
          | (apply J_skip)
          | (apply al_none (t := 3); refine JL_o (by apply as_box; exact OpR_box' hs rfl) rfl rfl ?_; rintro _ _ ⟨b3, rfl, hb3, hs, hE⟩)
          | (apply al_none (t := 6); refine JL_o (by apply as_alloc; exact OpR_alloc' hs) rfl rfl ?_; rintro _ _ ⟨b6, rfl, hb6, hs, hE⟩)
          | (apply al_none (t := 8); refine JL_o (by apply as_alloc; exact OpR_alloc' hs) rfl rfl ?_; rintro _ _ ⟨b8, rfl, hb8, hs, hE⟩)
          | (apply al_unit; refine JL_u (by apply as_store; exact OpR_store' hs rfl rfl rfl) rfl ?_; rintro _ _ ⟨hs, hF⟩)
          | (apply al_guard; (refine JL_no rfl (by first | assumption | rfl | exact decide_eq_true (by first | assumption | omega) | exact decide_eq_false (by first | assumption | omega)) rfl ?_))
          | (apply aj_cond; first | refine J_dec_t rfl (by first | assumption | omega) ?_ | refine J_dec_f rfl (by first | assumption | omega) ?_ | refine J_cond_t rfl (by first | assumption | rfl | exact decide_eq_true (by first | assumption | omega) | exact decide_eq_false (by first | assumption | omega)) ?_))
        have hs := hs.nilRow 34 2
        refine J_leave Tryd.func26 rfl (.agg' hs rfl rfl (.tmp rfl .nil)) ⟨_, _, rfl, hs.out (.cons_cons _ (List.nil_sublist _))⟩
    · obtain ⟨hb1, hb2⟩ : ¬ last < s.2 ∧ ¬ refWhoM xs (s.1, last) = 0 := ⟨fun q => hb (.inl q), fun q => hb (.inr q)⟩
      repeat' (first
        | ((apply al_call 16; refine JL_o (by exact OpR_callF en16 rfl (refAt_r _ a n c xs i (h.st hs) hi)) rfl rfl ?_; rintro _ _ ⟨rfl, hE⟩; have hs := hs.ext hE; rw [← hsd]; (try simp only [List.cons_append, List.nil_append] at hs)))
        | ((apply al_call 20; refine JL_o (by exact OpR_callF en20 rfl (refWho_r _ a n c xs s.1 last (h.st hs))) rfl rfl ?_; rintro _ _ ⟨rfl, hE⟩; have hs := hs.ext hE; (try simp only [List.cons_append, List.nil_append] at hs)))
        | (apply JL_nil)
        | ((first | (apply JL_pure) | (apply JL_pure_on; exact rfl; (first | assumption | exact rfl | exact decide_eq_true (by first | assumption | omega) | exact decide_eq_false (by first | assumption | omega)))); (first
      | (apply as_move; exact OpR_move rfl is_rfl)
      | (apply as_assign; exact OpR_assign rfl is_rfl)
      | (apply as_fieldAddr; exact OpR_fieldAddr0 rfl rfl is_rfl)
      | (apply as_load; first | exact OpR_load' hs rfl rfl is_rfl | exact OpR_load_agg' hs rfl is_rfl)
      | (apply as_binOp; exact OpR_ibin rfl rfl rfl is_rfl)
      | (apply as_pick; exact OpR_pick_f rfl (by first | assumption | rfl | exact decide_eq_true (by first | assumption | omega) | exact decide_eq_false (by first | assumption | omega)) rfl is_rfl)
      | (apply as_b_len; exact OpR_len rfl is_rfl)
      | (apply as_build; exact OpR_build rfl (by (simp only [bld, placesOf, splice, Value.cells, List.take_succ_cons, List.take_zero, List.drop_succ_cons, List.drop_zero, List.cons_append, List.nil_append, List.length_cons, List.length_nil, List.getElem?_cons_zero, List.getElem?_cons_succ, Option.map_some, List.append_nil, Nat.reduceAdd, Nat.reduceMul, Nat.zero_add, Nat.reduceLeDiff, and_self, if_true, List.toList_toArray, Nat.le_refl, Nat.zero_mul, Nat.one_mul]; first | done | rfl)) is_rfl)); first | (exact rfl; exact rfl) | exact rfl)
        | (apply J_seq)
        | (apply J_region)
        | (apply J_block)
        | (apply J_skip)
        | (apply al_none (t := 3); refine JL_o (by apply as_box; exact OpR_box' hs rfl) rfl rfl ?_; rintro _ _ ⟨b3, rfl, hb3, hs, hE⟩)
        | (apply al_none (t := 6); refine JL_o (by apply as_alloc; exact OpR_alloc' hs) rfl rfl ?_; rintro _ _ ⟨b6, rfl, hb6, hs, hE⟩)
        | (apply al_none (t := 8); refine JL_o (by apply as_alloc; exact OpR_alloc' hs) rfl rfl ?_; rintro _ _ ⟨b8, rfl, hb8, hs, hE⟩)
        | (apply al_unit; refine JL_u (by apply as_store; exact OpR_store' hs rfl rfl rfl) rfl ?_; rintro _ _ ⟨hs, hF⟩)
        | (apply aj_cond; refine J_dec_f rfl (by first | assumption | omega) ?_))
      refine J_loopK (α := Nat) [(1, _), (2, _), (3, _), (6, _), (8, _), (9, _), (36, _), (37, _)] (fun k => [(38, .int .i64 k)]) (fun k w' => St w NoF w' [Blk b8 (.cells #[.int .i64 s.1, .int .i64 s.2] 34 (0, 0)), Blk b6 (.cells #[.slice none 0 0] 24 (0, 0)), Blk b3 (.cells #[.slice a n c] 24 (0, 0))] ∧ k ≤ n ∧ ∀ y ∈ xs.take k, aboveB s last y = false) (fun k => n - k) 0 ⟨hs, by omega, by simp⟩ (by repeat' (first | exact trivial | exact rfl | apply And.intro)) ?_
      rintro k w' ⟨hs1, hk, hj⟩ ih
      by_cases hlt : k < n
      · obtain ⟨p1, o1, rfl⟩ := h.sl.addr (by omega)
        have hx : xs[k]? = some xs[k] := List.getElem?_eq_getElem (by omega)
        obtain ⟨x, hxd⟩ : ∃ x, x = xs[k] := ⟨_, rfl⟩
        rw [← hxd] at hx
        have hs : St w NoF w' [_, _, _] := hs1
        have hstep : aboveB s last x = false → ∀ y ∈ xs.take (k + 1), aboveB s last y = false := fun hf y hy => by
          rw [List.take_add_one, hx] at hy
          rcases List.mem_append.1 hy with hy | hy
          · exact hj y hy
          · have hy : y = x := by simpa using hy
            rw [hy]; exact hf
        by_cases q1 : x.1 = s.1
        · by_cases q2 : last < x.2
          · have ha : xs.any (aboveB s last) = true := List.any_eq_true.2 ⟨x, List.mem_of_getElem? hx, by unfold aboveB; rw [decide_eq_true q1, decide_eq_true q2]; rfl⟩
            have hd : swapRM xs i last = ([], 2) := by unfold swapRM; rw [← hsd, if_neg hz, if_neg hb, if_pos ha]
            rw [hd]
            repeat' (first
              | (apply JL_nil)
              | ((first | (apply JL_pure) | (apply JL_pure_on; exact rfl; (first | assumption | exact rfl | exact decide_eq_true (by first | assumption | omega) | exact decide_eq_false (by first | assumption | omega)))); (first
      | (apply as_load; first | exact OpR_load' hs rfl rfl is_rfl | exact OpR_load_agg' hs rfl is_rfl | exact OpR_load_el (h.st hs) hx rfl rfl is_rfl)
      | (apply as_move; exact OpR_move rfl is_rfl)
      | (apply as_assign; exact OpR_assign rfl is_rfl)
      | (apply as_fieldAddr; exact OpR_fieldAddr0 rfl rfl is_rfl)
      | (apply as_binOp; exact OpR_ibin rfl rfl rfl is_rfl)
      | (apply as_pick; exact OpR_pick_t rfl (by first | assumption | rfl | exact decide_eq_true (by first | assumption | omega) | exact decide_eq_false (by first | assumption | omega)) rfl is_rfl)
      | (apply as_indexAddr; exact OpR_indexAddr rfl rfl (by omega) (by omega) is_rfl)
      | (apply as_build; exact OpR_build rfl (by (simp only [bld, placesOf, splice, Value.cells, List.take_succ_cons, List.take_zero, List.drop_succ_cons, List.drop_zero, List.cons_append, List.nil_append, List.length_cons, List.length_nil, List.getElem?_cons_zero, List.getElem?_cons_succ, Option.map_some, List.append_nil, Nat.reduceAdd, Nat.reduceMul, Nat.zero_add, Nat.reduceLeDiff, and_self, if_true, List.toList_toArray, Nat.le_refl, Nat.zero_mul, Nat.one_mul]; first | done | rfl)) is_rfl)); first | (exact rfl; exact rfl) | exact rfl)
              | (apply J_seq)
              | (apply J_region)
              | (apply J_block)
              | (apply J_skip)
              | (apply al_none (t := 11); refine JL_o (by apply as_alloc; exact OpR_alloc' hs) rfl rfl ?_; rintro _ _ ⟨b11, rfl, hb11, hs, hE⟩)
              | (apply al_unit; refine JL_u (by apply as_store; exact OpR_store' hs rfl rfl rfl) rfl ?_; rintro _ _ ⟨hs, hF⟩)
              | (apply aj_cond; refine J_dec_t rfl (by first | assumption | omega) ?_))
            have hs := hs.nilRow 34 2
            refine J_leave Tryd.func26 rfl (.agg' hs rfl rfl (.tmp rfl .nil)) ⟨_, _, rfl, hs.out (.cons_cons _ (List.nil_sublist _))⟩
          · repeat' (first
              | (apply JL_nil)
              | ((first | (apply JL_pure) | (apply JL_pure_on; exact rfl; (first | assumption | exact rfl | exact decide_eq_true (by first | assumption | omega) | exact decide_eq_false (by first | assumption | omega)))); (first
      | (apply as_load; first | exact OpR_load' hs rfl rfl is_rfl | exact OpR_load_agg' hs rfl is_rfl | exact OpR_load_el (h.st hs) hx rfl rfl is_rfl)
      | (apply as_move; exact OpR_move rfl is_rfl)
      | (apply as_fieldAddr; exact OpR_fieldAddr0 rfl rfl is_rfl)
      | (apply as_add; exact OpR_addn rfl rfl (by omega) (by first | (simp only [Int.reduceAdd]; exact rfl) | exact rfl) is_rfl)
      | (apply as_binOp; exact OpR_ibin rfl rfl rfl is_rfl)
      | (apply as_pick; exact OpR_pick_t rfl (by first | assumption | rfl | exact decide_eq_true (by first | assumption | omega) | exact decide_eq_false (by first | assumption | omega)) rfl is_rfl)
      | (apply as_indexAddr; exact OpR_indexAddr rfl rfl (by omega) (by omega) is_rfl)); first | (exact rfl; exact rfl) | exact rfl)
              | (apply J_seq)
              | (apply J_region)
              | (apply J_block)
              | (apply J_inBlock)
              | (apply J_skip)
              | (apply al_none (t := 11); refine JL_o (by apply as_alloc; exact OpR_alloc' hs) rfl rfl ?_; rintro _ _ ⟨b11, rfl, hb11, hs, hE⟩)
              | (apply al_unit; refine JL_u (by apply as_store; exact OpR_store' hs rfl rfl rfl) rfl ?_; rintro _ _ ⟨hs, hF⟩)
              | (apply aj_cond; first | refine J_dec_t rfl (by first | assumption | omega) ?_ | refine J_dec_f rfl (by first | assumption | omega) ?_))
            refine ih (k + 1) _ _ ⟨hs.sel [1, 2, 3] (by decide), by omega, hstep (by unfold aboveB; rw [decide_eq_false q2]; simp)⟩ (by omega) (by repeat' (first | exact trivial | exact rfl | apply And.intro))
        · repeat' (first
            | (apply JL_nil)
            | ((apply JL_pure); (first
      | (apply as_load; first | exact OpR_load' hs rfl rfl is_rfl | exact OpR_load_agg' hs rfl is_rfl | exact OpR_load_el (h.st hs) hx rfl rfl is_rfl)
      | (apply as_move; exact OpR_move rfl is_rfl)
      | (apply as_fieldAddr; exact OpR_fieldAddr0 rfl rfl is_rfl)
      | (apply as_add; exact OpR_addn rfl rfl (by omega) (by first | (simp only [Int.reduceAdd]; exact rfl) | exact rfl) is_rfl)
      | (apply as_binOp; exact OpR_ibin rfl rfl rfl is_rfl)
      | (apply as_pick; exact OpR_pick_f rfl (by first | assumption | rfl | exact decide_eq_true (by first | assumption | omega) | exact decide_eq_false (by first | assumption | omega)) rfl is_rfl)
      | (apply as_indexAddr; exact OpR_indexAddr rfl rfl (by omega) (by omega) is_rfl)); first | (exact rfl; exact rfl) | exact rfl)
            | (apply J_seq)
            | (apply J_region)
            | (apply J_block)
            | (apply J_inBlock)
            | (apply J_skip)
            | (apply al_none (t := 11); refine JL_o (by apply as_alloc; exact OpR_alloc' hs) rfl rfl ?_; rintro _ _ ⟨b11, rfl, hb11, hs, hE⟩)
            | (apply al_unit; refine JL_u (by apply as_store; exact OpR_store' hs rfl rfl rfl) rfl ?_; rintro _ _ ⟨hs, hF⟩)
            | (apply al_guard; (refine JL_no rfl (by first | assumption | rfl | exact decide_eq_true (by first | assumption | omega) | exact decide_eq_false (by first | assumption | omega)) rfl ?_))
            | (apply aj_cond; first | refine J_dec_t rfl (by first | assumption | omega) ?_ | refine J_cond_f rfl (by first | assumption | rfl | exact decide_eq_true (by first | assumption | omega) | exact decide_eq_false (by first | assumption | omega)) ?_))
          refine ih (k + 1) _ _ ⟨hs.sel [1, 2, 3] (by decide), by omega, hstep (by unfold aboveB; rw [decide_eq_false q1]; rfl)⟩ (by omega) (by repeat' (first | exact trivial | exact rfl | apply And.intro))
      · rw [List.take_of_length_le (by omega)] at hj
        have hs : St w NoF w' [_, _, _] := hs1
        have ha : ¬ xs.any (aboveB s last) = true := by
          rw [List.any_eq_true]; rintro ⟨y, hy, hy2⟩; rw [hj y hy] at hy2; cases hy2
        have hin : 1 ≤ i ∧ i ≤ xs.length := by
          have : ¬ ¬ (1 ≤ i ∧ i ≤ (xs.length : Int)) := fun hn => hz (by rw [hsd]; unfold atM; rw [if_neg hn])
          exact Decidable.not_not.1 this
        obtain ⟨q, rfl⟩ : ∃ q : Nat, i = q := ⟨i.toNat, by omega⟩
        have hwl := refWhoM_le xs (s.1, last)
        by_cases he : (refWhoM xs (s.1, last) : Int) = q
        · have hd : swapRM xs q last = (trimM t0B (putM xs q (0, 0)), 0) := by unfold swapRM; rw [← hsd, if_neg hz, if_neg hb, if_neg ha, if_pos he, Int.toNat_natCast]
          rw [hd]
          repeat' (first
            | ((apply al_call 42; refine JL_o (by exact OpR_callF en42 rfl (with_r _ a n c xs q 0 0 (by omega) (h.st hs) (by omega))) rfl rfl ?_; rintro _ _ ⟨az, cz, rfl, hf⟩; have hs := hs.fresh hf; (try simp only [List.cons_append, List.nil_append] at hs)))
            | (apply JL_nil)
            | ((apply JL_pure); (first
      | (apply as_move; exact OpR_move rfl is_rfl)
      | (apply as_assign; exact OpR_assign rfl is_rfl)
      | (apply as_load; exact OpR_load_agg' hs rfl is_rfl)
      | (apply as_binOp; exact OpR_ibin rfl rfl rfl is_rfl)
      | (apply as_build; exact OpR_build rfl (by (simp only [bld, placesOf, splice, Value.cells, List.take_succ_cons, List.take_zero, List.drop_succ_cons, List.drop_zero, List.cons_append, List.nil_append, List.length_cons, List.length_nil, List.getElem?_cons_zero, List.getElem?_cons_succ, Option.map_some, List.append_nil, Nat.reduceAdd, Nat.reduceMul, Nat.zero_add, Nat.reduceLeDiff, and_self, if_true, List.toList_toArray, Nat.le_refl, Nat.zero_mul, Nat.one_mul]; first | done | rfl)) is_rfl)); first | (exact rfl; exact rfl) | exact rfl)
            | (apply J_seq)
            | (apply J_region)
            | (apply aj_exit; refine J_exit rfl ?_)
            | (apply J_skip)
            | (apply al_none (t := 12); refine JL_o (by apply as_alloc; exact OpR_alloc' hs) rfl rfl ?_; rintro _ _ ⟨b12, rfl, hb12, hs, hE⟩)
            | (apply al_unit; refine JL_u (by apply as_store; exact OpR_store' hs rfl rfl rfl) rfl ?_; rintro _ _ ⟨hs, hF⟩)
            | (apply aj_cond; refine J_dec_f rfl (by first | assumption | omega) ?_))
          refine J_leave Tryd.func26 rfl (.agg' hs rfl rfl (.tmp rfl .nil)) ⟨_, _, rfl, hs.out (.cons _ (.cons_cons _ (List.nil_sublist _)))⟩
        · have hd : swapRM xs q last = (trimM t0B (putM (trimM t0B (putM xs q (0, 0))) (refWhoM xs (s.1, last)) s), 0) := by unfold swapRM; rw [← hsd, if_neg hz, if_neg hb, if_neg ha, if_neg he, Int.toNat_natCast]
          rw [hd]
          obtain ⟨ys, hys⟩ : ∃ ys, ys = trimM t0B (putM xs q (0, 0)) := ⟨_, rfl⟩
          have hyo : ∀ t ∈ ys, okS t := fun t ht => by
            rw [hys] at ht
            rcases mem_putM (mem_trimM ht) with h1 | h1 | h1
            · obtain ⟨j, hj⟩ := List.mem_iff_getElem?.1 h1; exact h.okSp hj
            · rw [h1]; exact okS0
            · rw [h1]; exact okS0
          have hyl : ys.length ≤ 1048578 := by
            have h1 := trimM_le t0B (putM xs q (0, 0))
            rw [putM_len] at h1
            rw [hys]; omega
          rw [← hys]
          repeat' (first
            | ((apply al_call 42; refine JL_o (by exact OpR_callF en42 rfl (with_r _ a n c xs q 0 0 (by omega) (h.st hs) (by omega))) rfl rfl ?_; rintro _ _ ⟨az, cz, rfl, hf⟩; rw [← hys] at hf ⊢; have hs := hs.fresh hf; (try simp only [List.cons_append, List.nil_append] at hs)))
            | ((apply al_call 42; refine JL_o (by exact OpR_callF en42 rfl (with_r _ az ys.length cz ys (refWhoM xs (s.1, last)) s.1 s.2 (by omega) (RowV.sp (hs.row az ys.length cz) hyo) (by omega))) rfl rfl ?_; rintro _ _ ⟨au, cu, rfl, hf⟩; have hs := hs.fresh hf; (try simp only [List.cons_append, List.nil_append] at hs)))
            | (apply JL_nil)
            | ((apply JL_pure); (first
      | (apply as_move; exact OpR_move rfl is_rfl)
      | (apply as_assign; exact OpR_assign rfl is_rfl)
      | (apply as_load; exact OpR_load_agg' hs rfl is_rfl)
      | (apply as_binOp; exact OpR_ibin rfl rfl rfl is_rfl)
      | (apply as_build; exact OpR_build rfl (by (simp only [bld, placesOf, splice, Value.cells, List.take_succ_cons, List.take_zero, List.drop_succ_cons, List.drop_zero, List.cons_append, List.nil_append, List.length_cons, List.length_nil, List.getElem?_cons_zero, List.getElem?_cons_succ, Option.map_some, List.append_nil, Nat.reduceAdd, Nat.reduceMul, Nat.zero_add, Nat.reduceLeDiff, and_self, if_true, List.toList_toArray, Nat.le_refl, Nat.zero_mul, Nat.one_mul]; first | done | rfl)) is_rfl)); first | (exact rfl; exact rfl) | exact rfl)
            | (apply J_seq)
            | (apply J_region)
            | (apply aj_exit; refine J_exit rfl ?_)
            | (apply al_none (t := 12); refine JL_o (by apply as_alloc; exact OpR_alloc' hs) rfl rfl ?_; rintro _ _ ⟨b12, rfl, hb12, hs, hE⟩)
            | (apply al_unit; refine JL_u (by apply as_store; exact OpR_store' hs rfl rfl rfl) rfl ?_; rintro _ _ ⟨hs, hF⟩)
            | (apply aj_cond; first | refine J_dec_t rfl (by first | assumption | omega) ?_ | refine J_dec_f rfl (by first | assumption | omega) ?_))
          refine J_leave Tryd.func26 rfl (.agg' hs rfl rfl (.tmp rfl .nil)) ⟨_, _, rfl, hs.out (.cons_cons _ (List.nil_sublist _))⟩
end Go.Eng
/- Record: does. -/
namespace Go.Eng
open Go.Proofs
def nwB (s : Sp) : Bool := decide (s.1 = 0 ∧ s.2 = 0)
/-- What a function owes that does is handed: in every world in which the box and the row are held, apart from what was there, it answers e and turns the row to ys. -/
def DoOk (g : Nat) (cap : Array Value) (w0 : World) (xs : List Sp) (e : Int) (ys : List Sp) : Prop :=
  ∀ W b a c, Ext w0 W → (∀ k, (Star [Blk b (.cells #[.slice a xs.length c] 22 (0, 0)), Row a xs.length c 34 2 (cSp xs)]).foot k → w0.heap.size ≤ k) → Held W [Blk b (.cells #[.slice a xs.length c] 22 (0, 0)), Row a xs.length c 34 2 (cSp xs)] →
    Ret Tryd.prog g (#[.func (.func 50) #[] #[ptr b]] ++ cap) W fun v w' => v = .int .i64 e ∧ ∃ a' c', Turn W [Blk b (.cells #[.slice a xs.length c] 22 (0, 0)), Row a xs.length c 34 2 (cSp xs)] w' [Blk b (.cells #[.slice a' ys.length c'] 22 (0, 0)), Row a' ys.length c' 34 2 (cSp ys)]
def doesM (xs : List Sp) (e : Int) (ys : List Sp) : List Sp × Int := if rightB xs then if e = 0 then (trimM nwB ys, 0) else ([], e) else ([], 200)
theorem splice_whole {cs vs : List Value} (h : cs.length = vs.length) : splice cs (0 * 2) vs = vs := by
  simp only [splice, Nat.zero_mul, List.take_zero, List.nil_append, Nat.zero_add, ← h, List.drop_length, List.append_nil]
theorem cSp_len (xs : List Sp) : (cSp xs).length = xs.length * 2 := encL_len (d := dSp) xs
attribute [local irreducible] J JL JD JX JXat OpR OpG Ret RetV Is Blk Row MapC
set_option maxRecDepth 100000
set_option maxHeartbeats 1000000
set_option linter.unusedSimpArgs false
set_option linter.unusedVariables false
theorem does_r (w : World) (hG : Gz w) (a : Option Addr) (n c : Nat) (xs : List Sp) (g : Nat) (cap : Array Value) (eg : Enters Tryd.prog g) (e : Int) (ys : List Sp) (h : Sl dSp All w a n c xs) (hn2 : n ≤ 1048578) (hys : ys.length ≤ 4000000) (hdo : DoOk g cap w xs e ys) :
    Ret Tryd.prog 40 #[.agg #[.slice a n c], .func (.func g) #[] cap] w fun v w' => ∃ a' c', v = .tuple #[.agg #[.slice a' (doesM xs e ys).1.length c'], .int .i64 (doesM xs e ys).2] ∧ Fresh w w' [Row a' (doesM xs e ys).1.length c' 34 2 (cSp (doesM xs e ys).1)] := by
  refine Ret_of (l := [_, _]) Tryd.func40 rfl Tryd.ntmps40 (by simp) ?_
  have hs := St.init w
  have hl := h.len
  subst hl
  obtain ⟨hsrc, hpl, -⟩ := h.srcF
  by_cases hr : rightB xs = true
  · by_cases he : e = 0
    · subst he
      have hd : doesM xs 0 ys = (trimM nwB ys, 0) := by unfold doesM; rw [if_pos hr, if_pos rfl]
      rw [hd]
      repeat' (first
        | ((apply al_call 11; refine JL_o (by exact OpR_callF en11 rfl (check_v (hG.st hs) (h.st hs) hr)) rfl rfl ?_; rintro _ _ ⟨rfl, hE⟩; have hs := hs.ext hE; (try simp only [List.cons_append, List.nil_append] at hs)))
        | ((apply al_none (t := 19); refine JL_o (by apply as_makeSlice; exact OpR_make hs rfl rfl (by omega) (by omega)) rfl rfl ?_; rintro _ _ ⟨b19, rfl, hb19, hs, hE⟩; have hs := hs.toRow 0 xs.length xs.length 2 (Nat.le_refl _) (by unfold maxLen; omega) (by simp [madeCells]) rfl))
        | ((apply al_none (t := 23); refine JL_o (by apply as_b_copy; exact OpR_copyN (sz := 2) (off := 0) (vs := cSp xs) (a := some ⟨b19, 0, none⟩) (n := xs.length) (c := xs.length) (by omega) hs rfl rfl (fun _ => rfl) (by omega) (by rw [Nat.min_self]; exact Src.st hsrc hs) (by rw [Nat.min_self]; exact hpl)) rfl rfl ?_; rintro _ _ ⟨rfl, hs, hF⟩; rw [splice_whole (by rw [cSp_len]; simp [madeCells])] at hs))
        | ((apply al_none (t := 26); have hs2 : St w NoF _ ([Blk b7 _, Row _ _ _ _ _ _] ++ [Blk b4 _, Blk b2 _]) := hs; refine JL_o (OpR_callV rfl rfl (Ret.value (cap := cap) eg (hdo _ b7 (some ⟨b19, 0, none⟩) xs.length hs2.frm.ext hs2.foot0 (St.held (A := [_, _]) hs2)))) rfl rfl ?_; rintro _ _ ⟨rfl, a7, c7, ht⟩; have hs : St w NoF _ [_, _, _, _] := St.take (A := [_, _]) (A' := [_, _]) hs2 ht; clear ht hs2))
        | (apply JL_nil)
        | ((apply JL_pure); (first
      | (apply as_move; exact OpR_move rfl is_rfl)
      | (apply as_assign; exact OpR_assign rfl is_rfl)
      | (apply as_fieldAddr; exact OpR_fieldAddr0 rfl rfl is_rfl)
      | (apply as_load; first | exact OpR_load' hs rfl rfl is_rfl | exact OpR_load_agg' hs rfl is_rfl)
      | (apply as_binOp; exact OpR_ibin rfl rfl rfl is_rfl)
      | (apply as_b_len; exact OpR_len rfl is_rfl)
      | (apply as_makeFunc; exact OpR_func rfl is_rfl)); first | (exact rfl; exact rfl) | exact rfl)
        | (apply J_seq)
        | (apply J_region)
        | (apply J_block)
        | (apply J_skip)
        | (apply al_none (t := 2); refine JL_o (by apply as_box; exact OpR_box' hs rfl) rfl rfl ?_; rintro _ _ ⟨b2, rfl, hb2, hs, hE⟩)
        | (apply al_none (t := 4); refine JL_o (by apply as_alloc; exact OpR_alloc' hs) rfl rfl ?_; rintro _ _ ⟨b4, rfl, hb4, hs, hE⟩)
        | (apply al_none (t := 7); refine JL_o (by apply as_alloc; exact OpR_alloc' hs) rfl rfl ?_; rintro _ _ ⟨b7, rfl, hb7, hs, hE⟩)
        | (apply al_unit; refine JL_u (by apply as_store; exact OpR_store' hs rfl rfl rfl) rfl ?_; rintro _ _ ⟨hs, hF⟩)
        | (apply aj_cond; first | refine J_dec_f rfl (by first | assumption | omega) ?_ | refine J_cond_f rfl (by first | assumption | rfl | exact decide_eq_true (by first | assumption | omega) | exact decide_eq_false (by first | assumption | omega)) ?_))
      refine J_loopK (α := Nat) [(4, _), (7, _)] (fun m => [(9, .int .i64 m)]) (fun m w' => St w NoF w' [Blk b7 (.cells #[.slice a7 ys.length c7] 22 (0, 0)), Row a7 ys.length c7 34 2 (cSp ys), Blk b4 (.cells #[.slice none 0 0] 24 (0, 0))] ∧ m ≤ ys.length ∧ trimN nwB ys ys.length = trimN nwB ys m) (fun m => m) ys.length ⟨hs.sel [0, 1, 2] (by decide), by omega, rfl⟩ (by repeat' (first | exact trivial | exact rfl | apply And.intro)) ?_
      rintro m w2 ⟨hs1, hm, hT⟩ ih
      have hfin : ∀ q : Nat, trimN nwB ys m = q → (trimM nwB ys).length = q ∧ trimM nwB ys = ys.take q := fun q hq => ⟨by rw [trimM_len, hT, hq], by unfold trimM; rw [hT, hq]⟩
      cases m with
      | zero =>
        have hs : St w NoF w2 [_, _, _] := hs1
        have hcc := (hs.row a7 ys.length c7).2.1
        obtain ⟨hL, hL2⟩ := hfin 0 rfl
        rw [hL, hL2]
        repeat' (first
          | ((apply al_none (t := 49); refine JL_pure (v := .slice a7 0 0) (by apply as_slice; exact OpR_slice (kl := .i64) (kh := .i64) (km := .i64) (a' := a7) (m := ((0 : Nat) : Int)) (h := ((0 : Nat) : Int)) rfl (.inl ⟨rfl, rfl⟩) (.inr ⟨_, rfl, rfl⟩) (.inr ⟨_, rfl, rfl⟩) (by omega) (by omega) (by omega) (by omega) (by split; rfl; exact addr_add02 _) (by rw [Int.sub_zero, Int.toNat_natCast]; exact is_rfl)) rfl rfl ?_))
          | (apply JL_nil)
          | ((first | (apply JL_pure) | (apply JX_f; exact rfl; intro W X hs)); (first
      | (apply as_move; exact OpR_move rfl is_rfl)
      | (apply as_assign; exact OpR_assign rfl is_rfl)
      | (apply as_load; exact OpR_load' hs rfl rfl is_rfl)
      | (apply as_binOp; exact OpR_ibin rfl rfl rfl is_rfl)
      | (apply as_pick; exact OpR_pick_f rfl (by first | assumption | rfl | exact decide_eq_true (by first | assumption | omega) | exact decide_eq_false (by first | assumption | omega)) rfl is_rfl)
      | (apply as_build; exact OpR_build rfl (by (simp only [bld, placesOf, splice, Value.cells, List.take_succ_cons, List.take_zero, List.drop_succ_cons, List.drop_zero, List.cons_append, List.nil_append, List.length_cons, List.length_nil, List.getElem?_cons_zero, List.getElem?_cons_succ, Option.map_some, List.append_nil, Nat.reduceAdd, Nat.reduceMul, Nat.zero_add, Nat.reduceLeDiff, and_self, if_true, List.toList_toArray, Nat.le_refl, Nat.zero_mul, Nat.one_mul]; first | done | rfl)) is_rfl)); first | (exact rfl; exact rfl) | exact rfl)
          | (apply J_seq)
          | (apply J_region)
          | (apply aj_exit; refine J_exit rfl ?_)
          | (apply al_unit; refine JL_u (by apply as_store; exact OpR_store' hs rfl rfl rfl) rfl ?_; rintro _ _ ⟨hs, hF⟩)
          | (apply aj_cond; refine J_cond_f rfl (by first | assumption | rfl | exact decide_eq_true (by first | assumption | omega) | exact decide_eq_false (by first | assumption | omega)) ?_)
          | (apply aj_draw; (refine J_drawX (id := 10) [0, 1, 3, 7, 7, 23, 63, 127, 7, 511, 1023] [(0, 0), (1, 0), (2, 0), (3, 0), (4, 0), (5, 0), (6, 0), (7, 0), (8, 0), (9, 0), (10, 0)] [] hs mixed (by kernel_rfl) (by kernel_rfl) (by kernel_rfl) (by kernel_rfl) (by kernel_rfl) ?_))
          | (refine JX_done (fun W hs => ?_))
          | (refine JX_f_off rfl rfl (by first | assumption | rfl | exact decide_eq_true (by first | assumption | omega) | exact decide_eq_false (by first | assumption | omega)) rfl ?_)
          | (apply JD_done))
        have hs : St w NoF _ [_, _, _] := hs.sel [1, 0, 2] (by decide)
        have hs := hs.cutRow 0 0 (by omega) (Nat.le_refl _) (by omega)
        rw [show (cSp ys).take (0 * 2) = cSp (ys.take (0)) from (encL_take (d := dSp) ys (0)).symm] at hs
        refine J_leave Tryd.func40 rfl (.agg' hs rfl rfl (.tmp rfl .nil)) ⟨_, _, rfl, hs.out (.cons_cons _ (List.nil_sublist _))⟩
      | succ q =>
        obtain ⟨p7, o7, rfl⟩ := (hs1.row a7 ys.length c7).some (by omega)
        have hs : St w NoF w2 [_, _, _] := hs1
        have hcc := (hs.row (some ⟨p7, o7, none⟩) ys.length c7).2.1
        have e3 : ((q + 1 : Nat) : Int) - 1 = (q : Int) := by omega
        have hy : ys[q]? = some (ys.getD q (0, 0)) := by rw [List.getD_eq_getElem?_getD, List.getElem?_eq_getElem (by omega)]; rfl
        obtain ⟨y, hyd⟩ : ∃ y, y = ys.getD q (0, 0) := ⟨_, rfl⟩
        rw [← hyd] at hy
        have hcell : ∀ (j : Nat) (u : Value), [Value.int .i64 y.1, .int .i64 y.2][j]? = some u → (cSp ys)[(((q + 1 : Nat) : Int) - 1).toNat * 2 + j]? = some u := fun j u hu => by
          have hj : j < 2 := (List.getElem?_eq_some_iff.1 hu).1
          rw [show (((q + 1 : Nat) : Int) - 1).toNat = q by omega]
          exact (encL_get (d := dSp) ys q j y hy hj).trans hu
        have hstep : trimN nwB ys (q + 1) = if nwB y then trimN nwB ys q else q + 1 := by rw [trimN, hyd]
        by_cases hz : y.1 = 0 ∧ y.2 = 0
        · have hb : nwB y = true := decide_eq_true hz
          rw [hb, if_pos rfl] at hstep
          repeat' (first
            | ((apply al_none; refine JL_pure (v := .int .i64 (q : Int)) (by apply as_sub; exact OpR_sub rfl rfl (by omega) (by rw [e3]; exact is_rfl)) rfl rfl ?_))
            | (apply JL_nil)
            | ((first | (apply JL_pure) | (apply JX_f; exact rfl; intro W X hs) | (apply JX_f_on; exact rfl; exact rfl; (first | assumption | exact rfl | exact decide_eq_true (by first | assumption | omega) | exact decide_eq_false (by first | assumption | omega)); intro W X hs)); (first
      | (apply as_load; first | exact OpR_load_cells (T := 34) (vs := [.int .i64 0, .int .i64 0]) rfl (hG.st hs) rfl is_rfl | exact OpR_loadN (b := p7) (o := o7) (off := ((q + 1 : Nat) : Int).toNat * 2 - 2) (n := ys.length) (c := c7) (vs := [.int .i64 y.1, .int .i64 y.2]) hs rfl rfl hcell is_rfl | exact OpR_loadN (b := p7) (o := o7) (off := (((q + 1 : Nat) : Int) - 1).toNat * 2) (n := ys.length) (c := c7) (vs := [.int .i64 y.1, .int .i64 y.2]) hs rfl rfl hcell is_rfl)
      | (apply as_move; exact OpR_move rfl is_rfl)
      | (apply as_assign; exact OpR_assign rfl is_rfl)
      | (apply as_load; exact OpR_load' hs rfl rfl is_rfl)
      | (apply as_sub; exact OpR_sub rfl rfl (by omega) is_rfl)
      | (apply as_binOp; first | exact OpR_ibin rfl rfl rfl is_rfl | exact OpR_eqT rfl rfl is_rfl)
      | (apply as_pick; exact OpR_pick_t rfl (by first | assumption | rfl | exact decide_eq_true (by first | assumption | omega) | exact decide_eq_false (by first | assumption | omega)) rfl is_rfl)
      | (apply as_indexAddr; exact OpR_indexAddr rfl rfl (by omega) (by omega) is_rfl)); first | (exact rfl; exact rfl) | exact rfl)
            | (apply J_seq)
            | (apply J_region)
            | (apply J_block)
            | (apply J_inBlock)
            | (apply J_skip)
            | (apply aj_cond; refine J_dec_t rfl (by first | assumption | omega) ?_)
            | (apply aj_draw; (refine J_drawX (id := 10) [0, 1, 3, 7, 7, 23, 63, 127, 7, 511, 1023] [(0, 0), (1, 0), (2, 0), (3, 0), (4, 0), (5, 0), (6, 0), (7, 0), (8, 0), (9, 0), (10, 0)] [] hs mixed (by kernel_rfl) (by kernel_rfl) (by kernel_rfl) (by kernel_rfl) (by kernel_rfl) ?_))
            | (refine JX_done (fun W hs => ?_))
            | (apply JD_done))
          refine ih q _ _ ⟨hs, by omega, by rw [hT, hstep]⟩ (by omega) (by repeat' (first | exact trivial | exact rfl | apply And.intro))
        · have hb : nwB y = false := decide_eq_false hz
          rw [hb] at hstep
          obtain ⟨hL, hL2⟩ := hfin (q + 1) (by rw [hstep]; rfl)
          rw [hL, hL2]
          repeat' (first
            | ((apply al_none (t := 49); refine JL_pure (v := .slice (some ⟨p7, o7, none⟩) (q + 1) (q + 1)) (by apply as_slice; exact OpR_slice (kl := .i64) (kh := .i64) (km := .i64) (a' := (some ⟨p7, o7, none⟩)) (m := (((q + 1) : Nat) : Int)) (h := (((q + 1) : Nat) : Int)) rfl (.inl ⟨rfl, rfl⟩) (.inr ⟨_, rfl, rfl⟩) (.inr ⟨_, rfl, rfl⟩) (by omega) (by omega) (by omega) (by omega) (by split; rfl; exact addr_add02 _) (by rw [Int.sub_zero, Int.toNat_natCast]; exact is_rfl)) rfl rfl ?_))
            | (apply JL_nil)
            | ((first | (apply JL_pure) | (apply JX_f; exact rfl; intro W X hs) | (apply JX_f_on; exact rfl; exact rfl; (first | assumption | exact rfl | exact decide_eq_true (by first | assumption | omega) | exact decide_eq_false (by first | assumption | omega)); intro W X hs)); (first
      | (apply as_load; first | exact OpR_load_cells (T := 34) (vs := [.int .i64 0, .int .i64 0]) rfl (hG.st hs) rfl is_rfl | exact OpR_loadN (b := p7) (o := o7) (off := ((q + 1 : Nat) : Int).toNat * 2 - 2) (n := ys.length) (c := c7) (vs := [.int .i64 y.1, .int .i64 y.2]) hs rfl rfl hcell is_rfl | exact OpR_loadN (b := p7) (o := o7) (off := (((q + 1 : Nat) : Int) - 1).toNat * 2) (n := ys.length) (c := c7) (vs := [.int .i64 y.1, .int .i64 y.2]) hs rfl rfl hcell is_rfl)
      | (apply as_move; exact OpR_move rfl is_rfl)
      | (apply as_assign; exact OpR_assign rfl is_rfl)
      | (apply as_load; exact OpR_load' hs rfl rfl is_rfl)
      | (apply as_sub; exact OpR_sub rfl rfl (by omega) is_rfl)
      | (apply as_binOp; first | exact OpR_ibin rfl rfl rfl is_rfl | exact OpR_eqT rfl rfl is_rfl)
      | (apply as_pick; exact OpR_pick_t rfl (by first | assumption | rfl | exact decide_eq_true (by first | assumption | omega) | exact decide_eq_false (by first | assumption | omega)) rfl is_rfl)
      | (apply as_indexAddr; exact OpR_indexAddr rfl rfl (by omega) (by omega) is_rfl)
      | (apply as_build; exact OpR_build rfl (by (simp only [bld, placesOf, splice, Value.cells, List.take_succ_cons, List.take_zero, List.drop_succ_cons, List.drop_zero, List.cons_append, List.nil_append, List.length_cons, List.length_nil, List.getElem?_cons_zero, List.getElem?_cons_succ, Option.map_some, List.append_nil, Nat.reduceAdd, Nat.reduceMul, Nat.zero_add, Nat.reduceLeDiff, and_self, if_true, List.toList_toArray, Nat.le_refl, Nat.zero_mul, Nat.one_mul]; first | done | rfl)) is_rfl)); first | (exact rfl; exact rfl) | exact rfl)
            | (apply J_seq)
            | (apply J_region)
            | (apply aj_exit; refine J_exit rfl ?_)
            | (apply al_unit; refine JL_u (by apply as_store; exact OpR_store' hs rfl rfl rfl) rfl ?_; rintro _ _ ⟨hs, hF⟩)
            | (apply aj_cond; refine J_dec_f rfl (by first | assumption | omega) ?_)
            | (apply aj_draw; (refine J_drawX (id := 10) [0, 1, 3, 7, 7, 23, 63, 127, 7, 511, 1023] [(0, 0), (1, 0), (2, 0), (3, 0), (4, 0), (5, 0), (6, 0), (7, 0), (8, 0), (9, 0), (10, 0)] [] hs mixed (by kernel_rfl) (by kernel_rfl) (by kernel_rfl) (by kernel_rfl) (by kernel_rfl) ?_))
            | (refine JX_done (fun W hs => ?_))
            | (apply JD_done))
          have hs : St w NoF _ [_, _, _] := hs.sel [1, 0, 2] (by decide)
          have hs := hs.cutRow (q + 1) (q + 1) (by omega) (Nat.le_refl _) (by omega)
          rw [show (cSp ys).take ((q + 1) * 2) = cSp (ys.take ((q + 1))) from (encL_take (d := dSp) ys ((q + 1))).symm] at hs
          refine J_leave Tryd.func40 rfl (.agg' hs rfl rfl (.tmp rfl .nil)) ⟨_, _, rfl, hs.out (.cons_cons _ (List.nil_sublist _))⟩
    · have hd : doesM xs e ys = ([], e) := by unfold doesM; rw [if_pos hr, if_neg he]
      rw [hd]
      repeat' (first
        | ((apply al_call 11; refine JL_o (by exact OpR_callF en11 rfl (check_v (hG.st hs) (h.st hs) hr)) rfl rfl ?_; rintro _ _ ⟨rfl, hE⟩; have hs := hs.ext hE; (try simp only [List.cons_append, List.nil_append] at hs)))
        | ((apply al_none (t := 19); refine JL_o (by apply as_makeSlice; exact OpR_make hs rfl rfl (by omega) (by omega)) rfl rfl ?_; rintro _ _ ⟨b19, rfl, hb19, hs, hE⟩; have hs := hs.toRow 0 xs.length xs.length 2 (Nat.le_refl _) (by unfold maxLen; omega) (by simp [madeCells]) rfl))
        | ((apply al_none (t := 23); refine JL_o (by apply as_b_copy; exact OpR_copyN (sz := 2) (off := 0) (vs := cSp xs) (a := some ⟨b19, 0, none⟩) (n := xs.length) (c := xs.length) (by omega) hs rfl rfl (fun _ => rfl) (by omega) (by rw [Nat.min_self]; exact Src.st hsrc hs) (by rw [Nat.min_self]; exact hpl)) rfl rfl ?_; rintro _ _ ⟨rfl, hs, hF⟩; rw [splice_whole (by rw [cSp_len]; simp [madeCells])] at hs))
        | ((apply al_none (t := 26); have hs2 : St w NoF _ ([Blk b7 _, Row _ _ _ _ _ _] ++ [Blk b4 _, Blk b2 _]) := hs; refine JL_o (OpR_callV rfl rfl (Ret.value (cap := cap) eg (hdo _ b7 (some ⟨b19, 0, none⟩) xs.length hs2.frm.ext hs2.foot0 (St.held (A := [_, _]) hs2)))) rfl rfl ?_; rintro _ _ ⟨rfl, a7, c7, ht⟩; have hs : St w NoF _ [_, _, _, _] := St.take (A := [_, _]) (A' := [_, _]) hs2 ht; clear ht hs2))
        | (apply JL_nil)
        | ((apply JL_pure); (first
      | (apply as_move; exact OpR_move rfl is_rfl)
      | (apply as_assign; exact OpR_assign rfl is_rfl)
      | (apply as_fieldAddr; exact OpR_fieldAddr0 rfl rfl is_rfl)
      | (apply as_load; first | exact OpR_load' hs rfl rfl is_rfl | exact OpR_load_agg' hs rfl is_rfl)
      | (apply as_binOp; exact OpR_ibin rfl rfl rfl is_rfl)
      | (apply as_b_len; exact OpR_len rfl is_rfl)
      | (apply as_makeFunc; exact OpR_func rfl is_rfl)
      | (apply as_build; exact OpR_build rfl (by (simp only [bld, placesOf, splice, Value.cells, List.take_succ_cons, List.take_zero, List.drop_succ_cons, List.drop_zero, List.cons_append, List.nil_append, List.length_cons, List.length_nil, List.getElem?_cons_zero, List.getElem?_cons_succ, Option.map_some, List.append_nil, Nat.reduceAdd, Nat.reduceMul, Nat.zero_add, Nat.reduceLeDiff, and_self, if_true, List.toList_toArray, Nat.le_refl, Nat.zero_mul, Nat.one_mul]; first | done | rfl)) is_rfl)); first | (exact rfl; exact rfl) | exact rfl)
        | (apply J_seq)
        | (apply J_region)
        | (apply J_skip)
        | (apply al_none (t := 2); refine JL_o (by apply as_box; exact OpR_box' hs rfl) rfl rfl ?_; rintro _ _ ⟨b2, rfl, hb2, hs, hE⟩)
        | (apply al_none (t := 4); refine JL_o (by apply as_alloc; exact OpR_alloc' hs) rfl rfl ?_; rintro _ _ ⟨b4, rfl, hb4, hs, hE⟩)
        | (apply al_none (t := 7); refine JL_o (by apply as_alloc; exact OpR_alloc' hs) rfl rfl ?_; rintro _ _ ⟨b7, rfl, hb7, hs, hE⟩)
        | (apply al_unit; refine JL_u (by apply as_store; exact OpR_store' hs rfl rfl rfl) rfl ?_; rintro _ _ ⟨hs, hF⟩)
        | (apply aj_cond; first | refine J_dec_t rfl (by first | assumption | omega) ?_ | refine J_cond_f rfl (by first | assumption | rfl | exact decide_eq_true (by first | assumption | omega) | exact decide_eq_false (by first | assumption | omega)) ?_))
      have hs := hs.nilRow 34 2
      refine J_leave Tryd.func40 rfl (.agg' hs rfl rfl (.tmp rfl .nil)) ⟨_, _, rfl, hs.out (.cons_cons _ (List.nil_sublist _))⟩
  · have hr' : rightB xs = false := by simpa using hr
    have hd : doesM xs e ys = ([], 200) := by unfold doesM; rw [if_neg hr]
    rw [hd]
    repeat' (first
      | ((apply al_call 11; refine JL_o (by exact OpR_callF en11 rfl (check_v (hG.st hs) (h.st hs) hr')) rfl rfl ?_; rintro _ _ ⟨rfl, hE⟩; have hs := hs.ext hE; (try simp only [List.cons_append, List.nil_append] at hs)))
      | (apply JL_nil)
      | ((apply JL_pure); (first
      | (apply as_move; exact OpR_move rfl is_rfl)
      | (apply as_assign; exact OpR_assign rfl is_rfl)
      | (apply as_load; exact OpR_load_agg' hs rfl is_rfl)
      | (apply as_binOp; exact OpR_ibin rfl rfl rfl is_rfl)
      | (apply as_build; exact OpR_build rfl (by (simp only [bld, placesOf, splice, Value.cells, List.take_succ_cons, List.take_zero, List.drop_succ_cons, List.drop_zero, List.cons_append, List.nil_append, List.length_cons, List.length_nil, List.getElem?_cons_zero, List.getElem?_cons_succ, Option.map_some, List.append_nil, Nat.reduceAdd, Nat.reduceMul, Nat.zero_add, Nat.reduceLeDiff, and_self, if_true, List.toList_toArray, Nat.le_refl, Nat.zero_mul, Nat.one_mul]; first | done | rfl)) is_rfl)); first | (exact rfl; exact rfl) | exact rfl)
      | (apply J_seq)
      | (apply J_region)
      | (apply al_none (t := 2); refine JL_o (by apply as_box; exact OpR_box' hs rfl) rfl rfl ?_; rintro _ _ ⟨b2, rfl, hb2, hs, hE⟩)
      | (apply al_none (t := 4); refine JL_o (by apply as_alloc; exact OpR_alloc' hs) rfl rfl ?_; rintro _ _ ⟨b4, rfl, hb4, hs, hE⟩)
      | (apply al_unit; refine JL_u (by apply as_store; exact OpR_store' hs rfl rfl rfl) rfl ?_; rintro _ _ ⟨hs, hF⟩)
      | (apply aj_cond; refine J_cond_t rfl (by first | assumption | rfl | exact decide_eq_true (by first | assumption | omega) | exact decide_eq_false (by first | assumption | omega)) ?_))
    have hs := hs.nilRow 34 2
    refine J_leave Tryd.func40 rfl (.agg' hs rfl rfl (.tmp rfl .nil)) ⟨_, _, rfl, hs.out (.cons_cons _ (List.nil_sublist _))⟩
end Go.Eng
/- Record: Drop. -/
namespace Go.Eng
open Go.Proofs
theorem Gz.o0 {w0 w w1 : World} {F : Nat → Prop} {L : List HP} (h : Gz w0) (hs : St w F w1 L) (hE : Ext w0 w) (hF : ∀ k, F k → w0.heap.size ≤ k) : Gz w1 := fun j v hj => (World.cell?_of_block (hs.old0 hE hF 0 h.lt)).trans (h j v hj)
attribute [local irreducible] J JL JD JX JXat OpR OpG Ret RetV Is Blk Row MapC
set_option maxRecDepth 100000
set_option maxHeartbeats 1000000
set_option linter.unusedSimpArgs false
set_option linter.unusedVariables false
theorem drop43_ok (w : World) (hG : Gz w) (br bi : Nat) (a : Option Addr) (n c : Nat) (xs : List Sp) (i : Int) (hi : inK .i64 i) (h : Sl dSp All w a n c xs) (hn2 : n ≤ 1048578)
    (hbr : w.heap[br]? = some (.cells #[.slice a n c] 24 (0, 0))) (hbi : w.heap[bi]? = some (.cells #[.int .i64 i] 3 (0, 0))) :
    DoOk 43 #[ptr br, ptr bi] w xs (if (atM xs i).1 = 0 ∧ (atM xs i).2 = 0 then 4 else 0) (if (atM xs i).1 = 0 ∧ (atM xs i).2 = 0 then xs else putM xs i.toNat (0, 0)) := by
  intro W b a2 c2 hE0 hfo hH
  refine Ret_of (l := [_, _, _]) Tryd.func43 rfl Tryd.ntmps43 (by simp) ?_
  have hs := hH.st
  have hbr1 := (Array.getElem?_eq_some_iff.1 hbr).1
  have hbi1 := (Array.getElem?_eq_some_iff.1 hbi).1
  have h0 : ¬ (Star [Blk b (.cells #[.slice a2 xs.length c2] 22 (0, 0)), Row a2 xs.length c2 34 2 (cSp xs)]).foot 0 := fun hf => by have := hfo 0 hf; have := hG.lt; omega
  obtain ⟨s, hsd⟩ : ∃ s, s = atM xs i := ⟨_, rfl⟩
  rw [← hsd]
  by_cases hz : s.1 = 0 ∧ s.2 = 0
  · rw [if_pos hz, if_pos hz]
    repeat' (first
      | ((apply ax_c; apply JX_cF 36; exact rfl; (intro W X hN hs; exact OpR_callF en36 rfl (at_r _ (hG.o0 hs hE0 hfo) a n c xs i (h.loc (fun k _ hk => hs.old0 hE0 hfo k hk)) hi)); (rintro _ _ _ _ ⟨rfl, hE⟩; first | exact hE | exact Fresh.ext hf); rintro W X _ _ hN hs ⟨rfl, hE⟩; have hs := hs.ext hE; rw [← hsd]; (try simp only [List.cons_append, List.nil_append] at hs); refine JX.at hs ?_))
      | (apply JL_nil)
      | ((first | (apply JL_pure) | (apply JX_f; exact rfl; intro W X hs)); (first
      | (apply as_load; first | exact OpR_load_cells (T := 34) (vs := [.int .i64 0, .int .i64 0]) rfl (hG.o0 hs hE0 hfo) rfl is_rfl | exact OpR_load_cells (T := 24) (vs := [.slice a n c]) rfl (fun j u hu => (World.cell?_of_block (hs.old0 hE0 hfo br hbr1)).trans (cell_blk hbr (by simpa using hu))) rfl is_rfl | exact OpR_load_cell ((World.cell?_of_block (hs.old0 hE0 hfo bi hbi1)).trans (cell_blk (off := 0) hbi rfl)) rfl is_rfl)
      | (apply as_assign; exact OpR_assign rfl is_rfl)
      | (apply as_binOp; exact OpR_eqT rfl rfl is_rfl)); first | (exact rfl; exact rfl) | exact rfl)
      | (apply J_seq)
      | (apply J_region)
      | (apply aj_cond; refine J_dec_t rfl (by first | assumption | omega) ?_)
      | (apply aj_draw; (refine J_drawX (id := 1) [0, 0, 3, 0, 15] [(0, 0), (1, 0), (3, 0), (2, 1), (4, 0)] [] hs mixed (by kernel_rfl) (by kernel_rfl) (by kernel_rfl) (by kernel_rfl) (by kernel_rfl) ?_))
      | (refine JX_done (fun W hs => ?_))
      | (apply JD_done))
    refine J_leave Tryd.func43 rfl (.tmp rfl .nil) ⟨rfl, a2, c2, St.turned (M := []) hs⟩
  · rw [if_neg hz, if_neg hz]
    have hin : 1 ≤ i ∧ i ≤ xs.length := by
      have : ¬ ¬ (1 ≤ i ∧ i ≤ (xs.length : Int)) := fun hn => hz (by rw [hsd]; unfold atM; rw [if_neg hn]; exact ⟨rfl, rfl⟩)
      exact Decidable.not_not.1 this
    have hl := h.len
    obtain ⟨k, rfl⟩ : ∃ k : Nat, i = k := ⟨i.toNat, by omega⟩
    rw [Int.toNat_natCast]
    repeat' (first
      | ((apply ax_c; apply JX_cF 36; exact rfl; (intro W X hN hs; exact OpR_callF en36 rfl (at_r _ (hG.o0 hs hE0 hfo) a n c xs k (h.loc (fun k _ hk => hs.old0 hE0 hfo k hk)) hi)); (rintro _ _ _ _ ⟨rfl, hE⟩; first | exact hE | exact Fresh.ext hf); rintro W X _ _ hN hs ⟨rfl, hE⟩; have hs := hs.ext hE; rw [← hsd]; (try simp only [List.cons_append, List.nil_append] at hs); refine JX.at hs ?_))
      | ((apply al_none (t := 13); refine JL_o (OpR_callV rfl rfl (Ret.value (cap := #[ptr b]) en50 (put50_r _ (hG.o0 hs hE0 hfo) b a2 xs.length c2 xs k 0 0 (by omega) rfl (by omega) (St.held (A := [_, _]) hs) h0))) rfl rfl ?_; rintro _ _ ⟨a3, c3, ht⟩; have hs : St _ _ _ [_, _] := St.take (A := [_, _]) (A' := [_, _]) (L := []) hs ht; clear ht))
      | (apply JL_nil)
      | ((first | (apply JL_pure) | (apply JX_f; exact rfl; intro W X hs)); (first
      | (apply as_load; first | exact OpR_load_cells (T := 34) (vs := [.int .i64 0, .int .i64 0]) rfl (hG.o0 hs hE0 hfo) rfl is_rfl | exact OpR_load_cells (T := 24) (vs := [.slice a n c]) rfl (fun j u hu => (World.cell?_of_block (hs.old0 hE0 hfo br hbr1)).trans (cell_blk hbr (by simpa using hu))) rfl is_rfl | exact OpR_load_cell ((World.cell?_of_block (hs.old0 hE0 hfo bi hbi1)).trans (cell_blk (off := 0) hbi rfl)) rfl is_rfl)
      | (apply as_move; exact OpR_move rfl is_rfl)
      | (apply as_assign; exact OpR_assign rfl is_rfl)
      | (apply as_binOp; exact OpR_eqT rfl rfl is_rfl)); first | (exact rfl; exact rfl) | exact rfl)
      | (apply J_seq)
      | (apply J_region)
      | (apply J_skip)
      | (apply aj_cond; refine J_dec_f rfl (by first | assumption | omega) ?_)
      | (apply aj_draw; (refine J_drawX (id := 1) [0, 0, 3, 0, 15] [(0, 0), (1, 0), (3, 0), (2, 1), (4, 0)] [] hs mixed (by kernel_rfl) (by kernel_rfl) (by kernel_rfl) (by kernel_rfl) (by kernel_rfl) ?_))
      | (refine JX_done (fun W hs => ?_))
      | (apply JD_done))
    refine J_leave Tryd.func43 rfl (.tmp rfl .nil) ⟨rfl, a3, c3, St.turned (M := []) hs⟩
end Go.Eng
/- Record: Drop. -/
namespace Go.Eng
open Go.Proofs
attribute [local irreducible] J JL JD JX JXat OpR OpG Ret RetV Is Blk Row MapC
set_option maxRecDepth 100000
set_option maxHeartbeats 1000000
set_option linter.unusedSimpArgs false
set_option linter.unusedVariables false
def dropE (xs : List Sp) (i : Int) : Int := if (atM xs i).1 = 0 ∧ (atM xs i).2 = 0 then 4 else 0
def dropY (xs : List Sp) (i : Int) : List Sp := if (atM xs i).1 = 0 ∧ (atM xs i).2 = 0 then xs else putM xs i.toNat (0, 0)
theorem dropY_len {xs : List Sp} {i : Int} : (dropY xs i).length ≤ xs.length := by
  unfold dropY
  split
  · exact Nat.le_refl _
  · rename_i hz
    have hin : 1 ≤ i ∧ i ≤ xs.length := by
      have : ¬ ¬ (1 ≤ i ∧ i ≤ (xs.length : Int)) := fun hn => hz (by unfold atM; rw [if_neg hn]; exact ⟨rfl, rfl⟩)
      exact Decidable.not_not.1 this
    rw [putM_len]; omega
theorem Drop_r (w : World) (hG : Gz w) (a : Option Addr) (n c : Nat) (xs : List Sp) (i : Int) (hi : inK .i64 i) (h : Sl dSp All w a n c xs) (hn2 : n ≤ 1048578) :
    Ret Tryd.prog 23 #[.agg #[.slice a n c], .int .i64 i] w fun v w' => ∃ a' c', v = .tuple #[.agg #[.slice a' (doesM xs (dropE xs i) (dropY xs i)).1.length c'], .int .i64 (doesM xs (dropE xs i) (dropY xs i)).2] ∧ Fresh w w' [Row a' (doesM xs (dropE xs i) (dropY xs i)).1.length c' 34 2 (cSp (doesM xs (dropE xs i) (dropY xs i)).1)] := by
  refine Ret_of (l := [_, _]) Tryd.func23 rfl Tryd.ntmps23 (by simp) ?_
  have hs := St.init w
  have hl := h.len
  have hyl := dropY_len (xs := xs) (i := i)
  repeat' (first
    | ((apply al_call 40; refine JL_o (by exact OpR_callF en40 rfl (does_r _ (hG.st hs) a n c xs 43 #[ptr b2, ptr b3] en43 (dropE xs i) (dropY xs i) (h.st hs) hn2 (by omega) (drop43_ok _ (hG.st hs) b2 b3 a n c xs i hi (h.st hs) hn2 hs.blk hs.blk))) rfl rfl ?_; rintro _ _ ⟨az, cz, rfl, hf⟩; have hs := hs.fresh hf; (try simp only [List.cons_append, List.nil_append] at hs)))
    | (apply JL_nil)
    | ((apply JL_pure); (first
      | (apply as_assign; exact OpR_assign rfl is_rfl)
      | (apply as_load; exact OpR_load_agg' hs rfl is_rfl)
      | (apply as_extract; exact OpR_extract rfl rfl is_rfl)
      | (apply as_makeFunc; exact OpR_func rfl is_rfl)); first | (exact rfl; exact rfl) | exact rfl)
    | (apply J_seq)
    | (apply J_region)
    | (apply al_none (t := 2); refine JL_o (by apply as_box; exact OpR_box' hs rfl) rfl rfl ?_; rintro _ _ ⟨b2, rfl, hb2, hs, hE⟩)
    | (apply al_none (t := 3); refine JL_o (by apply as_box; exact OpR_box' hs rfl) rfl rfl ?_; rintro _ _ ⟨b3, rfl, hb3, hs, hE⟩)
    | (apply al_none (t := 4); refine JL_o (by apply as_alloc; exact OpR_alloc' hs) rfl rfl ?_; rintro _ _ ⟨b4, rfl, hb4, hs, hE⟩)
    | (apply al_unit; refine JL_u (by apply as_store; exact OpR_store' hs rfl rfl rfl) rfl ?_; rintro _ _ ⟨hs, hF⟩))
  refine J_leave Tryd.func23 rfl (.agg' hs rfl rfl (.tmp rfl .nil)) ⟨_, _, rfl, hs.out (.cons_cons _ (List.nil_sublist _))⟩
end Go.Eng
/- Record: Put. -/
namespace Go.Eng
open Go.Proofs
def pBad (i : Int) (s : Sp) : Prop := i < 1 ∨ 1048578 < i ∨ spotB s = false
instance (i : Int) (s : Sp) : Decidable (pBad i s) := by unfold pBad; infer_instance
def putE (xs : List Sp) (i : Int) (s : Sp) : Int := if pBad i s then 2 else if 0 < whoM xs s ∧ (whoM xs s : Int) ≠ i then 5 else 0
def putY (xs : List Sp) (i : Int) (s : Sp) : List Sp := if pBad i s then xs else if 0 < whoM xs s ∧ (whoM xs s : Int) ≠ i then xs else putM xs i.toNat s
attribute [local irreducible] J JL JD JX JXat OpR OpG Ret RetV Is Blk Row MapC
set_option maxRecDepth 100000
set_option maxHeartbeats 1000000
set_option linter.unusedSimpArgs false
set_option linter.unusedVariables false
theorem put41_ok (w : World) (hG : Gz w) (bi bs br : Nat) (a : Option Addr) (n c : Nat) (xs : List Sp) (i s1 s2 : Int) (hi : inK .i64 i) (h : Sl dSp All w a n c xs) (hn2 : n ≤ 1048578)
    (hbi : w.heap[bi]? = some (.cells #[.int .i64 i] 3 (0, 0))) (hbs : w.heap[bs]? = some (.cells #[.int .i64 s1, .int .i64 s2] 34 (0, 0))) (hbr : w.heap[br]? = some (.cells #[.slice a n c] 24 (0, 0))) :
    DoOk 41 #[ptr bi, ptr bs, ptr br] w xs (putE xs i (s1, s2)) (putY xs i (s1, s2)) := by
  intro W b a2 c2 hE0 hfo hH
  refine Ret_of (l := [_, _, _, _]) Tryd.func41 rfl Tryd.ntmps41 (by simp) ?_
  have hs := hH.st
  have hl := h.len
  have hbr1 := (Array.getElem?_eq_some_iff.1 hbr).1
  have hbi1 := (Array.getElem?_eq_some_iff.1 hbi).1
  have hbs1 := (Array.getElem?_eq_some_iff.1 hbs).1
  have h0 : ¬ (Star [Blk b (.cells #[.slice a2 xs.length c2] 22 (0, 0)), Row a2 xs.length c2 34 2 (cSp xs)]).foot 0 := fun hf => by have := hfo 0 hf; have := hG.lt; omega
  by_cases hb : pBad i (s1, s2)
  · have he : putE xs i (s1, s2) = 2 := by unfold putE; rw [if_pos hb]
    have hy : putY xs i (s1, s2) = xs := by unfold putY; rw [if_pos hb]
    rw [he, hy]
    have hb2 : i < 1 ∨ (¬ i < 1 ∧ 1048578 < i) ∨ (¬ i < 1 ∧ ¬ 1048578 < i ∧ (!spotB (s1, s2)) = true) := by
      unfold pBad at hb
      by_cases q1 : i < 1
      · exact .inl q1
      · by_cases q2 : 1048578 < i
        · exact .inr (.inl ⟨q1, q2⟩)
        · rcases hb with hb | hb | hb
          · exact absurd hb q1
          · exact absurd hb q2
          · exact .inr (.inr ⟨q1, q2, by rw [hb]; rfl⟩)
    rcases hb2 with h1 | ⟨h1, h2⟩ | ⟨h1, h2, h3⟩
    all_goals
      repeat' (first
        | ((apply al_callg 34; refine JL_o_on rfl (by first | assumption | rfl | exact decide_eq_true (by first | assumption | omega) | exact decide_eq_false (by first | assumption | omega)) (by exact OpR_callF en34 rfl (spot_r _ s1 s2)) rfl rfl ?_; rintro _ _ ⟨rfl, hE⟩; have hs := hs.ext hE; (try simp only [List.cons_append, List.nil_append] at hs)))
        | (apply JL_nil)
        | ((first | (apply JL_pure) | (apply JL_pure_on; exact rfl; (first | assumption | exact rfl | exact decide_eq_true (by first | assumption | omega) | exact decide_eq_false (by first | assumption | omega)))); (first
      | (apply as_load; first | exact OpR_load_cells (T := 34) (vs := [.int .i64 s1, .int .i64 s2]) rfl (fun j u hu => (World.cell?_of_block (hs.old0 hE0 hfo bs hbs1)).trans (cell_blk hbs (by simpa using hu))) rfl is_rfl | exact OpR_load_cells (T := 24) (vs := [.slice a n c]) rfl (fun j u hu => (World.cell?_of_block (hs.old0 hE0 hfo br hbr1)).trans (cell_blk hbr (by simpa using hu))) rfl is_rfl | exact OpR_load_cell ((World.cell?_of_block (hs.old0 hE0 hfo bi hbi1)).trans (cell_blk (off := 0) hbi rfl)) rfl is_rfl)
      | (apply as_move; exact OpR_move rfl is_rfl)
      | (apply as_assign; exact OpR_assign rfl is_rfl)
      | (apply as_binOp; exact OpR_ibin rfl rfl rfl is_rfl)
      | (apply as_unOp; exact OpR_not rfl is_rfl)
      | (apply as_pick; first | exact OpR_pick_t rfl (by first | assumption | rfl | exact decide_eq_true (by first | assumption | omega) | exact decide_eq_false (by first | assumption | omega)) rfl is_rfl | exact OpR_pick_f rfl (by first | assumption | rfl | exact decide_eq_true (by first | assumption | omega) | exact decide_eq_false (by first | assumption | omega)) rfl is_rfl)); first | (exact rfl; exact rfl) | exact rfl)
        | (apply J_seq)
        | (apply J_region)
        | (apply al_guard; (refine JL_no rfl (by first | assumption | rfl | exact decide_eq_true (by first | assumption | omega) | exact decide_eq_false (by first | assumption | omega)) rfl ?_))
        | (apply aj_cond; refine J_cond_t rfl (by first | assumption | rfl | exact decide_eq_true (by first | assumption | omega) | exact decide_eq_false (by first | assumption | omega)) ?_))
      refine J_leave Tryd.func41 rfl (.tmp rfl .nil) ⟨rfl, a2, c2, St.turned (M := []) hs⟩
  · obtain ⟨h1, h2, h3⟩ : ¬ i < 1 ∧ ¬ 1048578 < i ∧ (!spotB (s1, s2)) = false := by
      unfold pBad at hb
      refine ⟨fun q => hb (.inl q), fun q => hb (.inr (.inl q)), ?_⟩
      cases q3 : spotB (s1, s2) with
      | false => exact absurd (.inr (.inr q3)) hb
      | true => rfl
    by_cases hw : 0 < whoM xs (s1, s2) ∧ (whoM xs (s1, s2) : Int) ≠ i
    · have he : putE xs i (s1, s2) = 5 := by unfold putE; rw [if_neg hb, if_pos hw]
      have hy : putY xs i (s1, s2) = xs := by unfold putY; rw [if_neg hb, if_pos hw]
      rw [he, hy]
      obtain ⟨hw1, hw2⟩ := hw
      repeat' (first
        | ((apply al_callg 34; refine JL_o_on rfl (by first | assumption | rfl | exact decide_eq_true (by first | assumption | omega) | exact decide_eq_false (by first | assumption | omega)) (by exact OpR_callF en34 rfl (spot_r _ s1 s2)) rfl rfl ?_; rintro _ _ ⟨rfl, hE⟩; have hs := hs.ext hE; (try simp only [List.cons_append, List.nil_append] at hs)))
        | ((apply al_call 39; refine JL_o (by exact OpR_callF en39 rfl (who_r _ (hG.o0 hs hE0 hfo) a n c xs s1 s2 (h.loc (fun k _ hk => hs.old0 hE0 hfo k hk)))) rfl rfl ?_; rintro _ _ ⟨rfl, hE⟩; have hs := hs.ext hE; (try simp only [List.cons_append, List.nil_append] at hs)))
        | (apply JL_nil)
        | ((first | (apply JL_pure) | (apply JL_pure_on; exact rfl; (first | assumption | exact rfl | exact decide_eq_true (by first | assumption | omega) | exact decide_eq_false (by first | assumption | omega)))); (first
      | (apply as_load; first | exact OpR_load_cells (T := 34) (vs := [.int .i64 s1, .int .i64 s2]) rfl (fun j u hu => (World.cell?_of_block (hs.old0 hE0 hfo bs hbs1)).trans (cell_blk hbs (by simpa using hu))) rfl is_rfl | exact OpR_load_cells (T := 24) (vs := [.slice a n c]) rfl (fun j u hu => (World.cell?_of_block (hs.old0 hE0 hfo br hbr1)).trans (cell_blk hbr (by simpa using hu))) rfl is_rfl | exact OpR_load_cell ((World.cell?_of_block (hs.old0 hE0 hfo bi hbi1)).trans (cell_blk (off := 0) hbi rfl)) rfl is_rfl)
      | (apply as_move; exact OpR_move rfl is_rfl)
      | (apply as_assign; exact OpR_assign rfl is_rfl)
      | (apply as_binOp; exact OpR_ibin rfl rfl rfl is_rfl)
      | (apply as_unOp; exact OpR_not rfl is_rfl)
      | (apply as_pick; first | exact OpR_pick_t rfl (by first | assumption | rfl | exact decide_eq_true (by first | assumption | omega) | exact decide_eq_false (by first | assumption | omega)) rfl is_rfl | exact OpR_pick_f rfl (by first | assumption | rfl | exact decide_eq_true (by first | assumption | omega) | exact decide_eq_false (by first | assumption | omega)) rfl is_rfl)); first | (exact rfl; exact rfl) | exact rfl)
        | (apply J_seq)
        | (apply J_region)
        | (apply J_skip)
        | (apply aj_cond; first | refine J_dec_t rfl (by first | assumption | omega) ?_ | refine J_cond_f rfl (by first | assumption | rfl | exact decide_eq_true (by first | assumption | omega) | exact decide_eq_false (by first | assumption | omega)) ?_))
      refine J_leave Tryd.func41 rfl (.tmp rfl .nil) ⟨rfl, a2, c2, St.turned (M := []) hs⟩
    · have he : putE xs i (s1, s2) = 0 := by unfold putE; rw [if_neg hb, if_neg hw]
      have hy : putY xs i (s1, s2) = putM xs i.toNat (s1, s2) := by unfold putY; rw [if_neg hb, if_neg hw]
      rw [he, hy]
      obtain ⟨k, rfl⟩ : ∃ k : Nat, i = k := ⟨i.toNat, by omega⟩
      rw [Int.toNat_natCast]
      obtain hw1 | hw1 : ¬ 0 < whoM xs (s1, s2) ∨ (0 < whoM xs (s1, s2) ∧ (whoM xs (s1, s2) : Int) = k) := by omega
      all_goals
        repeat' (first
          | ((apply al_callg 34; refine JL_o_on rfl (by first | assumption | rfl | exact decide_eq_true (by first | assumption | omega) | exact decide_eq_false (by first | assumption | omega)) (by exact OpR_callF en34 rfl (spot_r _ s1 s2)) rfl rfl ?_; rintro _ _ ⟨rfl, hE⟩; have hs := hs.ext hE; (try simp only [List.cons_append, List.nil_append] at hs)))
          | ((apply al_call 39; refine JL_o (by exact OpR_callF en39 rfl (who_r _ (hG.o0 hs hE0 hfo) a n c xs s1 s2 (h.loc (fun k _ hk => hs.old0 hE0 hfo k hk)))) rfl rfl ?_; rintro _ _ ⟨rfl, hE⟩; have hs := hs.ext hE; (try simp only [List.cons_append, List.nil_append] at hs)))
          | ((apply al_none (t := 31); refine JL_o (OpR_callV rfl rfl (Ret.value (cap := #[ptr b]) en50 (put50_r _ (hG.o0 hs hE0 hfo) b a2 xs.length c2 xs k s1 s2 (by omega) rfl (by omega) (St.held (A := [_, _]) hs) h0))) rfl rfl ?_; rintro _ _ ⟨a3, c3, ht⟩; have hs : St _ _ _ [_, _] := St.take (A := [_, _]) (A' := [_, _]) (L := []) hs ht; clear ht))
          | (apply JL_nil)
          | ((first | (apply JL_pure) | (apply JL_pure_on; exact rfl; (first | assumption | exact rfl | exact decide_eq_true (by first | assumption | omega) | exact decide_eq_false (by first | assumption | omega)))); (first
      | (apply as_load; first | exact OpR_load_cells (T := 34) (vs := [.int .i64 s1, .int .i64 s2]) rfl (fun j u hu => (World.cell?_of_block (hs.old0 hE0 hfo bs hbs1)).trans (cell_blk hbs (by simpa using hu))) rfl is_rfl | exact OpR_load_cells (T := 24) (vs := [.slice a n c]) rfl (fun j u hu => (World.cell?_of_block (hs.old0 hE0 hfo br hbr1)).trans (cell_blk hbr (by simpa using hu))) rfl is_rfl | exact OpR_load_cell ((World.cell?_of_block (hs.old0 hE0 hfo bi hbi1)).trans (cell_blk (off := 0) hbi rfl)) rfl is_rfl)
      | (apply as_move; exact OpR_move rfl is_rfl)
      | (apply as_assign; exact OpR_assign rfl is_rfl)
      | (apply as_binOp; exact OpR_ibin rfl rfl rfl is_rfl)
      | (apply as_unOp; exact OpR_not rfl is_rfl)
      | (apply as_pick; first | exact OpR_pick_t rfl (by first | assumption | rfl | exact decide_eq_true (by first | assumption | omega) | exact decide_eq_false (by first | assumption | omega)) rfl is_rfl | exact OpR_pick_f rfl (by first | assumption | rfl | exact decide_eq_true (by first | assumption | omega) | exact decide_eq_false (by first | assumption | omega)) rfl is_rfl)); first | (exact rfl; exact rfl) | exact rfl)
          | (apply J_seq)
          | (apply J_region)
          | (apply J_skip)
          | (apply al_guard; (refine JL_no rfl (by first | assumption | rfl | exact decide_eq_true (by first | assumption | omega) | exact decide_eq_false (by first | assumption | omega)) rfl ?_))
          | (apply aj_cond; first | refine J_dec_f rfl (by first | assumption | omega) ?_ | refine J_cond_f rfl (by first | assumption | rfl | exact decide_eq_true (by first | assumption | omega) | exact decide_eq_false (by first | assumption | omega)) ?_))
        refine J_leave Tryd.func41 rfl (.tmp rfl .nil) ⟨rfl, a3, c3, St.turned (M := []) hs⟩
end Go.Eng
/- Record: Put. -/
namespace Go.Eng
open Go.Proofs
attribute [local irreducible] J JL JD JX JXat OpR OpG Ret RetV Is Blk Row MapC
set_option maxRecDepth 100000
set_option maxHeartbeats 1000000
set_option linter.unusedSimpArgs false
set_option linter.unusedVariables false
theorem putY_len {xs : List Sp} {i : Int} {s : Sp} (hn : xs.length ≤ 1048578) : (putY xs i s).length ≤ 1048578 := by
  unfold putY
  split
  · exact hn
  · rename_i hb
    split
    · exact hn
    · have : ¬ 1048578 < i := fun q => hb (.inr (.inl q))
      rw [putM_len]; omega
theorem Put_r (w : World) (hG : Gz w) (a : Option Addr) (n c : Nat) (xs : List Sp) (i s1 s2 : Int) (hi : inK .i64 i) (h : Sl dSp All w a n c xs) (hn2 : n ≤ 1048578) :
    Ret Tryd.prog 21 #[.agg #[.slice a n c], .int .i64 i, .agg #[.int .i64 s1, .int .i64 s2]] w fun v w' => ∃ a' c', v = .tuple #[.agg #[.slice a' (doesM xs (putE xs i (s1, s2)) (putY xs i (s1, s2))).1.length c'], .int .i64 (doesM xs (putE xs i (s1, s2)) (putY xs i (s1, s2))).2] ∧ Fresh w w' [Row a' (doesM xs (putE xs i (s1, s2)) (putY xs i (s1, s2))).1.length c' 34 2 (cSp (doesM xs (putE xs i (s1, s2)) (putY xs i (s1, s2))).1)] := by
  refine Ret_of (l := [_, _, _]) Tryd.func21 rfl Tryd.ntmps21 (by simp) ?_
  have hs := St.init w
  have hl := h.len
  have hyl := putY_len (xs := xs) (i := i) (s := (s1, s2)) (by omega)
  repeat' (first
    | ((apply al_call 40; refine JL_o (by exact OpR_callF en40 rfl (does_r _ (hG.st hs) a n c xs 41 #[ptr b4, ptr b5, ptr b3] en41 (putE xs i (s1, s2)) (putY xs i (s1, s2)) (h.st hs) hn2 (by omega) (put41_ok _ (hG.st hs) b4 b5 b3 a n c xs i s1 s2 hi (h.st hs) hn2 hs.blk hs.blk hs.blk))) rfl rfl ?_; rintro _ _ ⟨az, cz, rfl, hf⟩; have hs := hs.fresh hf; (try simp only [List.cons_append, List.nil_append] at hs)))
    | (apply JL_nil)
    | ((apply JL_pure); (first
      | (apply as_assign; exact OpR_assign rfl is_rfl)
      | (apply as_load; exact OpR_load_agg' hs rfl is_rfl)
      | (apply as_extract; exact OpR_extract rfl rfl is_rfl)
      | (apply as_makeFunc; exact OpR_func rfl is_rfl)); first | (exact rfl; exact rfl) | exact rfl)
    | (apply J_seq)
    | (apply J_region)
    | (apply al_none (t := 3); refine JL_o (by apply as_box; exact OpR_box' hs rfl) rfl rfl ?_; rintro _ _ ⟨b3, rfl, hb3, hs, hE⟩)
    | (apply al_none (t := 4); refine JL_o (by apply as_box; exact OpR_box' hs rfl) rfl rfl ?_; rintro _ _ ⟨b4, rfl, hb4, hs, hE⟩)
    | (apply al_none (t := 5); refine JL_o (by apply as_box; exact OpR_box' hs rfl) rfl rfl ?_; rintro _ _ ⟨b5, rfl, hb5, hs, hE⟩)
    | (apply al_none (t := 6); refine JL_o (by apply as_alloc; exact OpR_alloc' hs) rfl rfl ?_; rintro _ _ ⟨b6, rfl, hb6, hs, hE⟩)
    | (apply al_unit; refine JL_u (by apply as_store; exact OpR_store' hs rfl rfl rfl) rfl ?_; rintro _ _ ⟨hs, hF⟩))
  refine J_leave Tryd.func21 rfl (.agg' hs rfl rfl (.tmp rfl .nil)) ⟨_, _, rfl, hs.out (.cons_cons _ (List.nil_sublist _))⟩
end Go.Eng
/- Record: Swap. -/
namespace Go.Eng
open Go.Proofs
theorem whoM_le (xs : List Sp) (s : Sp) : whoM xs s ≤ xs.length := by
  unfold whoM
  cases h : (standG 0 xs).find? (fun p => decide (p.2 = s)) with
  | none => simp
  | some p =>
    have hm := List.mem_of_find?_eq_some h
    have := (standG_mem hm).1
    simp only [Option.map_some, Option.getD_some]; omega
def swE (xs : List Sp) (i last : Int) : Int := if (atM xs i).1 = 0 ∧ (atM xs i).2 = 0 then 4 else if whoM xs ((atM xs i).1, last) = 0 ∨ xs.any (aboveB (atM xs i) last) = true then 2 else 0
def swY (xs : List Sp) (i last : Int) : List Sp := if (atM xs i).1 = 0 ∧ (atM xs i).2 = 0 then xs else if whoM xs ((atM xs i).1, last) = 0 ∨ xs.any (aboveB (atM xs i) last) = true then xs else putM (putM xs (whoM xs ((atM xs i).1, last)) (atM xs i)) i.toNat (0, 0)
theorem St.no0 {w0 w w1 : World} {F : Nat → Prop} {A L : List HP} (hs : St w F w1 (A ++ L)) (hG : Gz w0) (hE : Ext w0 w) (hF : ∀ k, F k → w0.heap.size ≤ k) : ¬ (Star A).foot 0 := fun ⟨c, hc, hk⟩ => by
  have h1 := hG.lt
  have h2 := hE.size
  rcases (hs.foot c (List.mem_append_left _ hc) 0 hk).2 with h | h
  · have := hF 0 h; omega
  · omega
attribute [local irreducible] J JL JD JX JXat OpR OpG Ret RetV Is Blk Row MapC
set_option maxRecDepth 100000
set_option maxHeartbeats 1000000
set_option linter.unusedSimpArgs false
set_option linter.unusedVariables false
theorem swap44_ok (w : World) (hG : Gz w) (br bi bl : Nat) (a : Option Addr) (n c : Nat) (xs : List Sp) (i last : Int) (hi : inK .i64 i) (hla : inK .i64 last) (h : Sl dSp All w a n c xs) (hn2 : n ≤ 1048578)
    (hbr : w.heap[br]? = some (.cells #[.slice a n c] 24 (0, 0))) (hbi : w.heap[bi]? = some (.cells #[.int .i64 i] 3 (0, 0))) (hbl : w.heap[bl]? = some (.cells #[.int .i64 last] 3 (0, 0))) :
    DoOk 44 #[ptr br, ptr bi, ptr bl] w xs (swE xs i last) (swY xs i last) := by
  intro W b a2 c2 hE0 hfo hH
  refine Ret_of (l := [_, _, _, _]) Tryd.func44 rfl Tryd.ntmps44 (by simp) ?_
  have hs := hH.st
  have hl := h.len
  have hbr1 := (Array.getElem?_eq_some_iff.1 hbr).1
  have hbi1 := (Array.getElem?_eq_some_iff.1 hbi).1
  have hbl1 := (Array.getElem?_eq_some_iff.1 hbl).1
  obtain ⟨s, hsd⟩ : ∃ s, s = atM xs i := ⟨_, rfl⟩
  unfold swE swY
  rw [← hsd]
  by_cases hz : s.1 = 0 ∧ s.2 = 0
  · rw [if_pos hz, if_pos hz]
    repeat' (first
      | ((apply al_call 36; refine JL_o (by exact OpR_callF en36 rfl (at_r _ (hG.o0 hs hE0 hfo) a n c xs i (h.loc (fun k _ hk => hs.old0 hE0 hfo k hk)) hi)) rfl rfl ?_; rintro _ _ ⟨rfl, hE⟩; have hs := hs.ext hE; rw [← hsd]; (try simp only [List.cons_append, List.nil_append] at hs)))
      | (apply JL_nil)
      | ((apply JL_pure); (first
      | (apply as_load; first | exact OpR_load' hs rfl rfl is_rfl | exact OpR_load_agg' hs rfl is_rfl | exact OpR_load_cells (T := 34) (vs := [.int .i64 0, .int .i64 0]) rfl (hG.o0 hs hE0 hfo) rfl is_rfl | exact OpR_load_cells (T := 24) (vs := [.slice a n c]) rfl (fun j u hu => (World.cell?_of_block (hs.old0 hE0 hfo br hbr1)).trans (cell_blk hbr (by simpa using hu))) rfl is_rfl | exact OpR_load_cell ((World.cell?_of_block (hs.old0 hE0 hfo bi hbi1)).trans (cell_blk (off := 0) hbi rfl)) rfl is_rfl | exact OpR_load_cell ((World.cell?_of_block (hs.old0 hE0 hfo bl hbl1)).trans (cell_blk (off := 0) hbl rfl)) rfl is_rfl | exact OpR_load_cell ((World.cell?_of_block (hs.old0 hE0 hfo br hbr1)).trans (cell_blk (off := 0) hbr rfl)) rfl is_rfl)
      | (apply as_assign; exact OpR_assign rfl is_rfl)
      | (apply as_binOp; exact OpR_eqT rfl rfl is_rfl)); first | (exact rfl; exact rfl) | exact rfl)
      | (apply J_seq)
      | (apply J_region)
      | (apply al_none (t := 6); refine JL_o (by apply as_alloc; exact OpR_alloc' hs) rfl rfl ?_; rintro _ _ ⟨b6, rfl, hb6, hs, hE⟩)
      | (apply al_unit; refine JL_u (by apply as_store; exact OpR_store' hs rfl rfl rfl) rfl ?_; rintro _ _ ⟨hs, hF⟩)
      | (apply aj_cond; refine J_dec_t rfl (by first | assumption | omega) ?_))
    refine J_leave Tryd.func44 rfl (.tmp rfl .nil) ⟨rfl, a2, c2, St.turned (M := [_]) (hs.sel [1, 2, 0] (by decide))⟩
  · rw [if_neg hz, if_neg hz]
    have hin : 1 ≤ i ∧ i ≤ xs.length := by
      have : ¬ ¬ (1 ≤ i ∧ i ≤ (xs.length : Int)) := fun hn => hz (by rw [hsd]; unfold atM; rw [if_neg hn]; exact ⟨rfl, rfl⟩)
      exact Decidable.not_not.1 this
    have hwl := whoM_le xs (s.1, last)
    by_cases hw : whoM xs (s.1, last) = 0
    · rw [if_pos (.inl hw), if_pos (.inl hw)]
      repeat' (first
        | ((apply al_call 36; refine JL_o (by exact OpR_callF en36 rfl (at_r _ (hG.o0 hs hE0 hfo) a n c xs i (h.loc (fun k _ hk => hs.old0 hE0 hfo k hk)) hi)) rfl rfl ?_; rintro _ _ ⟨rfl, hE⟩; have hs := hs.ext hE; rw [← hsd]; (try simp only [List.cons_append, List.nil_append] at hs)))
        | ((apply al_call 39; refine JL_o (by exact OpR_callF en39 rfl (who_r _ (hG.o0 hs hE0 hfo) a n c xs s.1 last (h.loc (fun k _ hk => hs.old0 hE0 hfo k hk)))) rfl rfl ?_; rintro _ _ ⟨rfl, hE⟩; have hs := hs.ext hE; (try simp only [List.cons_append, List.nil_append] at hs)))
        | (apply JL_nil)
        | ((apply JL_pure); (first
      | (apply as_load; first | exact OpR_load' hs rfl rfl is_rfl | exact OpR_load_agg' hs rfl is_rfl | exact OpR_load_cells (T := 34) (vs := [.int .i64 0, .int .i64 0]) rfl (hG.o0 hs hE0 hfo) rfl is_rfl | exact OpR_load_cells (T := 24) (vs := [.slice a n c]) rfl (fun j u hu => (World.cell?_of_block (hs.old0 hE0 hfo br hbr1)).trans (cell_blk hbr (by simpa using hu))) rfl is_rfl | exact OpR_load_cell ((World.cell?_of_block (hs.old0 hE0 hfo bi hbi1)).trans (cell_blk (off := 0) hbi rfl)) rfl is_rfl | exact OpR_load_cell ((World.cell?_of_block (hs.old0 hE0 hfo bl hbl1)).trans (cell_blk (off := 0) hbl rfl)) rfl is_rfl | exact OpR_load_cell ((World.cell?_of_block (hs.old0 hE0 hfo br hbr1)).trans (cell_blk (off := 0) hbr rfl)) rfl is_rfl)
      | (apply as_move; exact OpR_move rfl is_rfl)
      | (apply as_assign; exact OpR_assign rfl is_rfl)
      | (apply as_fieldAddr; exact OpR_fieldAddr0 rfl rfl is_rfl)
      | (apply as_binOp; first | exact OpR_ibin rfl rfl rfl is_rfl | exact OpR_eqT rfl rfl is_rfl)
      | (apply as_pick; exact OpR_pick_t rfl (by first | assumption | rfl | exact decide_eq_true (by first | assumption | omega) | exact decide_eq_false (by first | assumption | omega)) rfl is_rfl)
      | (apply as_makeFunc; exact OpR_func rfl is_rfl)
      | (apply as_build; exact OpR_build rfl (by (simp only [bld, placesOf, splice, Value.cells, List.take_succ_cons, List.take_zero, List.drop_succ_cons, List.drop_zero, List.cons_append, List.nil_append, List.length_cons, List.length_nil, List.getElem?_cons_zero, List.getElem?_cons_succ, Option.map_some, List.append_nil, Nat.reduceAdd, Nat.reduceMul, Nat.zero_add, Nat.reduceLeDiff, and_self, if_true, List.toList_toArray, Nat.le_refl, Nat.zero_mul, Nat.one_mul]; first | done | rfl)) is_rfl)); first | (exact rfl; exact rfl) | exact rfl)
        | (apply J_seq)
        | (apply J_region)
        | (apply J_skip)
        | (apply al_none (t := 6); refine JL_o (by apply as_alloc; exact OpR_alloc' hs) rfl rfl ?_; rintro _ _ ⟨b6, rfl, hb6, hs, hE⟩)
        | (apply al_unit; refine JL_u (by apply as_store; exact OpR_store' hs rfl rfl rfl) rfl ?_; rintro _ _ ⟨hs, hF⟩)
        | (apply al_guard; (refine JL_no rfl (by first | assumption | rfl | exact decide_eq_true (by first | assumption | omega) | exact decide_eq_false (by first | assumption | omega)) rfl ?_))
        | (apply aj_cond; first | refine J_dec_f rfl (by first | assumption | omega) ?_ | refine J_cond_t rfl (by first | assumption | rfl | exact decide_eq_true (by first | assumption | omega) | exact decide_eq_false (by first | assumption | omega)) ?_))
      refine J_leave Tryd.func44 rfl (.tmp rfl .nil) ⟨rfl, a2, c2, St.turned (M := [_]) (hs.sel [1, 2, 0] (by decide))⟩
    · by_cases hq : xs.any (aboveB s last) = true
      · rw [if_pos (.inr hq), if_pos (.inr hq)]
        repeat' (first
          | ((apply al_call 36; refine JL_o (by exact OpR_callF en36 rfl (at_r _ (hG.o0 hs hE0 hfo) a n c xs i (h.loc (fun k _ hk => hs.old0 hE0 hfo k hk)) hi)) rfl rfl ?_; rintro _ _ ⟨rfl, hE⟩; have hs := hs.ext hE; rw [← hsd]; (try simp only [List.cons_append, List.nil_append] at hs)))
          | ((apply al_call 39; refine JL_o (by exact OpR_callF en39 rfl (who_r _ (hG.o0 hs hE0 hfo) a n c xs s.1 last (h.loc (fun k _ hk => hs.old0 hE0 hfo k hk)))) rfl rfl ?_; rintro _ _ ⟨rfl, hE⟩; have hs := hs.ext hE; (try simp only [List.cons_append, List.nil_append] at hs)))
          | ((apply al_callg 46; refine JL_o_on rfl (by first | assumption | rfl | exact decide_eq_true (by first | assumption | omega) | exact decide_eq_false (by first | assumption | omega)) (by exact OpR_callF en46 rfl (containsFunc_r _ a n c xs (aboveB s last) 45 #[ptr b6, ptr bl] en45 (h.loc (fun k _ hk => hs.old0 hE0 hfo k hk)) (fun W' hW' t => above_r W' b6 bl s.1 s.2 last t.1 t.2 (hs.ext hW').blk (((hs.ext hW').old0 hE0 hfo bl hbl1).trans hbl)))) rfl rfl ?_; rintro _ _ ⟨rfl, hE⟩; have hs := hs.ext hE; rw [hq]; (try simp only [List.cons_append, List.nil_append] at hs)))
          | (apply JL_nil)
          | ((first | (apply JL_pure) | (apply JL_pure_on; exact rfl; (first | assumption | exact rfl | exact decide_eq_true (by first | assumption | omega) | exact decide_eq_false (by first | assumption | omega)))); (first
      | (apply as_load; first | exact OpR_load' hs rfl rfl is_rfl | exact OpR_load_agg' hs rfl is_rfl | exact OpR_load_cells (T := 34) (vs := [.int .i64 0, .int .i64 0]) rfl (hG.o0 hs hE0 hfo) rfl is_rfl | exact OpR_load_cells (T := 24) (vs := [.slice a n c]) rfl (fun j u hu => (World.cell?_of_block (hs.old0 hE0 hfo br hbr1)).trans (cell_blk hbr (by simpa using hu))) rfl is_rfl | exact OpR_load_cell ((World.cell?_of_block (hs.old0 hE0 hfo bi hbi1)).trans (cell_blk (off := 0) hbi rfl)) rfl is_rfl | exact OpR_load_cell ((World.cell?_of_block (hs.old0 hE0 hfo bl hbl1)).trans (cell_blk (off := 0) hbl rfl)) rfl is_rfl | exact OpR_load_cell ((World.cell?_of_block (hs.old0 hE0 hfo br hbr1)).trans (cell_blk (off := 0) hbr rfl)) rfl is_rfl)
      | (apply as_move; exact OpR_move rfl is_rfl)
      | (apply as_assign; exact OpR_assign rfl is_rfl)
      | (apply as_fieldAddr; exact OpR_fieldAddr0 rfl rfl is_rfl)
      | (apply as_binOp; first | exact OpR_ibin rfl rfl rfl is_rfl | exact OpR_eqT rfl rfl is_rfl)
      | (apply as_pick; exact OpR_pick_f rfl (by first | assumption | rfl | exact decide_eq_true (by first | assumption | omega) | exact decide_eq_false (by first | assumption | omega)) rfl is_rfl)
      | (apply as_makeFunc; exact OpR_func rfl is_rfl)
      | (apply as_build; exact OpR_build rfl (by (simp only [bld, placesOf, splice, Value.cells, List.take_succ_cons, List.take_zero, List.drop_succ_cons, List.drop_zero, List.cons_append, List.nil_append, List.length_cons, List.length_nil, List.getElem?_cons_zero, List.getElem?_cons_succ, Option.map_some, List.append_nil, Nat.reduceAdd, Nat.reduceMul, Nat.zero_add, Nat.reduceLeDiff, and_self, if_true, List.toList_toArray, Nat.le_refl, Nat.zero_mul, Nat.one_mul]; first | done | rfl)) is_rfl)); first | (exact rfl; exact rfl) | exact rfl)
          | (apply J_seq)
          | (apply J_region)
          | (apply J_skip)
          | (apply al_none (t := 6); refine JL_o (by apply as_alloc; exact OpR_alloc' hs) rfl rfl ?_; rintro _ _ ⟨b6, rfl, hb6, hs, hE⟩)
          | (apply al_unit; refine JL_u (by apply as_store; exact OpR_store' hs rfl rfl rfl) rfl ?_; rintro _ _ ⟨hs, hF⟩)
          | (apply aj_cond; first | refine J_dec_f rfl (by first | assumption | omega) ?_ | refine J_cond_t rfl (by first | assumption | rfl | exact decide_eq_true (by first | assumption | omega) | exact decide_eq_false (by first | assumption | omega)) ?_))
        refine J_leave Tryd.func44 rfl (.tmp rfl .nil) ⟨rfl, a2, c2, St.turned (M := [_]) (hs.sel [1, 2, 0] (by decide))⟩
      · rw [if_neg (fun q => q.elim hw hq), if_neg (fun q => q.elim hw hq)]
        replace hq : xs.any (aboveB s last) = false := by simpa using hq
        obtain ⟨k, rfl⟩ : ∃ k : Nat, i = k := ⟨i.toNat, by omega⟩
        rw [Int.toNat_natCast]
        obtain ⟨q, hqd⟩ : ∃ q, q = whoM xs (s.1, last) := ⟨_, rfl⟩
        rw [← hqd] at hw hwl ⊢
        obtain ⟨ys, hyd⟩ : ∃ ys, ys = putM xs q s := ⟨_, rfl⟩
        have hyl : ys.length ≤ 1048578 := by rw [hyd, putM_len]; omega
        rw [← hyd]
        repeat' (first
          | ((apply al_call 36; refine JL_o (by exact OpR_callF en36 rfl (at_r _ (hG.o0 hs hE0 hfo) a n c xs k (h.loc (fun k _ hk => hs.old0 hE0 hfo k hk)) hi)) rfl rfl ?_; rintro _ _ ⟨rfl, hE⟩; have hs := hs.ext hE; rw [← hsd]; (try simp only [List.cons_append, List.nil_append] at hs)))
          | ((apply al_call 39; refine JL_o (by exact OpR_callF en39 rfl (who_r _ (hG.o0 hs hE0 hfo) a n c xs s.1 last (h.loc (fun k _ hk => hs.old0 hE0 hfo k hk)))) rfl rfl ?_; rintro _ _ ⟨rfl, hE⟩; have hs := hs.ext hE; rw [← hqd]; (try simp only [List.cons_append, List.nil_append] at hs)))
          | ((apply al_callg 46; refine JL_o_on rfl (by first | assumption | rfl | exact decide_eq_true (by first | assumption | omega) | exact decide_eq_false (by first | assumption | omega)) (by exact OpR_callF en46 rfl (containsFunc_r _ a n c xs (aboveB s last) 45 #[ptr b6, ptr bl] en45 (h.loc (fun k _ hk => hs.old0 hE0 hfo k hk)) (fun W' hW' t => above_r W' b6 bl s.1 s.2 last t.1 t.2 (hs.ext hW').blk (((hs.ext hW').old0 hE0 hfo bl hbl1).trans hbl)))) rfl rfl ?_; rintro _ _ ⟨rfl, hE⟩; have hs := hs.ext hE; rw [hq]; (try simp only [List.cons_append, List.nil_append] at hs)))
          | ((apply al_none (t := 33); have hs : St _ _ _ [_, _, _] := hs.sel [1, 2, 0] (by decide); refine JL_o (OpR_callV rfl rfl (Ret.value (cap := #[ptr b]) en50 (put50_r _ (hG.o0 hs hE0 hfo) b a2 (xs).length c2 (xs) (q) s.1 s.2 (by omega) rfl (by omega) (St.held (A := [_, _]) hs) (hs.no0 (A := [_, _]) hG hE0 hfo)))) rfl rfl ?_; rintro _ _ ⟨a3, c3, ht⟩; rw [← hyd] at ht; have hs : St _ _ _ [_, _, _] := St.take (A := [_, _]) (A' := [_, _]) (L := [_]) hs ht; clear ht))
          | ((apply al_none (t := 37); refine JL_o (OpR_callV rfl rfl (Ret.value (cap := #[ptr b]) en50 (put50_r _ (hG.o0 hs hE0 hfo) b a3 (ys).length c3 (ys) (k) 0 0 (by omega) rfl (by omega) (St.held (A := [_, _]) hs) (hs.no0 (A := [_, _]) hG hE0 hfo)))) rfl rfl ?_; rintro _ _ ⟨a4, c4, ht⟩; have hs : St _ _ _ [_, _, _] := St.take (A := [_, _]) (A' := [_, _]) (L := [_]) hs ht; clear ht))
          | (apply JL_nil)
          | ((first | (apply JL_pure) | (apply JL_pure_on; exact rfl; (first | assumption | exact rfl | exact decide_eq_true (by first | assumption | omega) | exact decide_eq_false (by first | assumption | omega)))); (first
      | (apply as_load; first | exact OpR_load' hs rfl rfl is_rfl | exact OpR_load_agg' hs rfl is_rfl | exact OpR_load_cells (T := 34) (vs := [.int .i64 0, .int .i64 0]) rfl (hG.o0 hs hE0 hfo) rfl is_rfl | exact OpR_load_cells (T := 24) (vs := [.slice a n c]) rfl (fun j u hu => (World.cell?_of_block (hs.old0 hE0 hfo br hbr1)).trans (cell_blk hbr (by simpa using hu))) rfl is_rfl | exact OpR_load_cell ((World.cell?_of_block (hs.old0 hE0 hfo bi hbi1)).trans (cell_blk (off := 0) hbi rfl)) rfl is_rfl | exact OpR_load_cell ((World.cell?_of_block (hs.old0 hE0 hfo bl hbl1)).trans (cell_blk (off := 0) hbl rfl)) rfl is_rfl | exact OpR_load_cell ((World.cell?_of_block (hs.old0 hE0 hfo br hbr1)).trans (cell_blk (off := 0) hbr rfl)) rfl is_rfl)
      | (apply as_move; exact OpR_move rfl is_rfl)
      | (apply as_assign; exact OpR_assign rfl is_rfl)
      | (apply as_fieldAddr; exact OpR_fieldAddr0 rfl rfl is_rfl)
      | (apply as_binOp; first | exact OpR_ibin rfl rfl rfl is_rfl | exact OpR_eqT rfl rfl is_rfl)
      | (apply as_pick; exact OpR_pick_f rfl (by first | assumption | rfl | exact decide_eq_true (by first | assumption | omega) | exact decide_eq_false (by first | assumption | omega)) rfl is_rfl)
      | (apply as_makeFunc; exact OpR_func rfl is_rfl)
      | (apply as_build; exact OpR_build rfl (by (simp only [bld, placesOf, splice, Value.cells, List.take_succ_cons, List.take_zero, List.drop_succ_cons, List.drop_zero, List.cons_append, List.nil_append, List.length_cons, List.length_nil, List.getElem?_cons_zero, List.getElem?_cons_succ, Option.map_some, List.append_nil, Nat.reduceAdd, Nat.reduceMul, Nat.zero_add, Nat.reduceLeDiff, and_self, if_true, List.toList_toArray, Nat.le_refl, Nat.zero_mul, Nat.one_mul]; first | done | rfl)) is_rfl)); first | (exact rfl; exact rfl) | exact rfl)
          | (apply J_seq)
          | (apply J_region)
          | (apply J_skip)
          | (apply al_none (t := 6); refine JL_o (by apply as_alloc; exact OpR_alloc' hs) rfl rfl ?_; rintro _ _ ⟨b6, rfl, hb6, hs, hE⟩)
          | (apply al_unit; refine JL_u (by apply as_store; exact OpR_store' hs rfl rfl rfl) rfl ?_; rintro _ _ ⟨hs, hF⟩)
          | (apply aj_cond; first | refine J_dec_f rfl (by first | assumption | omega) ?_ | refine J_cond_f rfl (by first | assumption | rfl | exact decide_eq_true (by first | assumption | omega) | exact decide_eq_false (by first | assumption | omega)) ?_))
        refine J_leave Tryd.func44 rfl (.tmp rfl .nil) ⟨rfl, a4, c4, St.turned (M := [_]) hs⟩
theorem swY_len {xs : List Sp} {i last : Int} (hn : xs.length ≤ 1048578) : (swY xs i last).length ≤ 1048578 := by
  unfold swY
  have := whoM_le xs ((atM xs i).1, last)
  split
  · exact hn
  · rename_i hz
    have hin : 1 ≤ i ∧ i ≤ xs.length := by
      have : ¬ ¬ (1 ≤ i ∧ i ≤ (xs.length : Int)) := fun hn => hz (by unfold atM; rw [if_neg hn]; exact ⟨rfl, rfl⟩)
      exact Decidable.not_not.1 this
    split
    · exact hn
    · rw [putM_len, putM_len]; omega
theorem Swap_r (w : World) (hG : Gz w) (a : Option Addr) (n c : Nat) (xs : List Sp) (i last : Int) (hi : inK .i64 i) (hla : inK .i64 last) (h : Sl dSp All w a n c xs) (hn2 : n ≤ 1048578) :
    Ret Tryd.prog 25 #[.agg #[.slice a n c], .int .i64 i, .int .i64 last] w fun v w' => ∃ a' c', v = .tuple #[.agg #[.slice a' (doesM xs (swE xs i last) (swY xs i last)).1.length c'], .int .i64 (doesM xs (swE xs i last) (swY xs i last)).2] ∧ Fresh w w' [Row a' (doesM xs (swE xs i last) (swY xs i last)).1.length c' 34 2 (cSp (doesM xs (swE xs i last) (swY xs i last)).1)] := by
  refine Ret_of (l := [_, _, _]) Tryd.func25 rfl Tryd.ntmps25 (by simp) ?_
  have hs := St.init w
  have hl := h.len
  have hyl := swY_len (xs := xs) (i := i) (last := last) (by omega)
  repeat' (first
    | ((apply al_call 40; refine JL_o (by exact OpR_callF en40 rfl (does_r _ (hG.st hs) a n c xs 44 #[ptr b3, ptr b4, ptr b5] en44 (swE xs i last) (swY xs i last) (h.st hs) hn2 (by omega) (swap44_ok _ (hG.st hs) b3 b4 b5 a n c xs i last hi hla (h.st hs) hn2 hs.blk hs.blk hs.blk))) rfl rfl ?_; rintro _ _ ⟨az, cz, rfl, hf⟩; have hs := hs.fresh hf; (try simp only [List.cons_append, List.nil_append] at hs)))
    | (apply JL_nil)
    | ((apply JL_pure); (first
      | (apply as_assign; exact OpR_assign rfl is_rfl)
      | (apply as_load; exact OpR_load_agg' hs rfl is_rfl)
      | (apply as_extract; exact OpR_extract rfl rfl is_rfl)
      | (apply as_makeFunc; exact OpR_func rfl is_rfl)); first | (exact rfl; exact rfl) | exact rfl)
    | (apply J_seq)
    | (apply J_region)
    | (apply al_none (t := 3); refine JL_o (by apply as_box; exact OpR_box' hs rfl) rfl rfl ?_; rintro _ _ ⟨b3, rfl, hb3, hs, hE⟩)
    | (apply al_none (t := 4); refine JL_o (by apply as_box; exact OpR_box' hs rfl) rfl rfl ?_; rintro _ _ ⟨b4, rfl, hb4, hs, hE⟩)
    | (apply al_none (t := 5); refine JL_o (by apply as_box; exact OpR_box' hs rfl) rfl rfl ?_; rintro _ _ ⟨b5, rfl, hb5, hs, hE⟩)
    | (apply al_none (t := 6); refine JL_o (by apply as_alloc; exact OpR_alloc' hs) rfl rfl ?_; rintro _ _ ⟨b6, rfl, hb6, hs, hE⟩)
    | (apply al_unit; refine JL_u (by apply as_store; exact OpR_store' hs rfl rfl rfl) rfl ?_; rintro _ _ ⟨hs, hF⟩))
  refine J_leave Tryd.func25 rfl (.agg' hs rfl rfl (.tmp rfl .nil)) ⟨_, _, rfl, hs.out (.cons_cons _ (List.nil_sublist _))⟩
end Go.Eng
/- Record: the rows of a table; the sort by them. -/
namespace Go.Proofs
def Tryd.sort37_ren : Go.Shelf.Ren := ⟨fun | 6 => 37 | 15 => 49 | 14 => 48 | 28 => 60 | 29 => 61 | 20 => 52 | 21 => 53 | 22 => 54 | 23 => 55 | 24 => 56 | 25 => 57 | 26 => 58 | 27 => 59 | 46 => 62 | 47 => 63 | 48 => 64 | 49 => 65 | 50 => 66 | 57 => 67 | n => n, fun | 22 => 26 | 24 => 3 | 25 => 65 | 3 => 3 | 39 => 74 | 0 => 0 | 53 => 84 | 55 => 86 | 4 => 4 | 46 => 78 | 45 => 77 | 50 => 40 | 5 => 5 | 9 => 9 | 66 => 87 | 70 => 91 | 76 => 93 | 77 => 94 | n => n, fun | n => n⟩
theorem Tryd.sort37 : Go.Proofs.SlLaysF.n6 Tryd.prog Tryd.sort37_ren := ⟨
by kernel_rfl,
⟨Tryd.f37.name, by decide, Tryd.func37.trans (congrArg some (by kernel_rfl))⟩,
⟨Tryd.f48.name, by decide, Tryd.func48.trans (congrArg some (by kernel_rfl))⟩,
Tryd.func49.trans (congrArg some (by kernel_rfl)),
⟨Tryd.f52.name, by decide, Tryd.func52.trans (congrArg some (by kernel_rfl))⟩,
⟨Tryd.f53.name, by decide, Tryd.func53.trans (congrArg some (by kernel_rfl))⟩,
⟨Tryd.f54.name, by decide, Tryd.func54.trans (congrArg some (by kernel_rfl))⟩,
⟨Tryd.f55.name, by decide, Tryd.func55.trans (congrArg some (by kernel_rfl))⟩,
⟨Tryd.f56.name, by decide, Tryd.func56.trans (congrArg some (by kernel_rfl))⟩,
⟨Tryd.f57.name, by decide, Tryd.func57.trans (congrArg some (by kernel_rfl))⟩,
⟨Tryd.f58.name, by decide, Tryd.func58.trans (congrArg some (by kernel_rfl))⟩,
⟨Tryd.f59.name, by decide, Tryd.func59.trans (congrArg some (by kernel_rfl))⟩,
Tryd.func60.trans (congrArg some (by kernel_rfl)),
Tryd.func61.trans (congrArg some (by kernel_rfl)),
⟨Tryd.f62.name, by decide, Tryd.func62.trans (congrArg some (by kernel_rfl))⟩,
Tryd.func63.trans (congrArg some (by kernel_rfl)),
Tryd.func64.trans (congrArg some (by kernel_rfl)),
⟨Tryd.f65.name, by decide, Tryd.func65.trans (congrArg some (by kernel_rfl))⟩,
⟨Tryd.f66.name, by decide, Tryd.func66.trans (congrArg some (by kernel_rfl))⟩,
⟨Tryd.f67.name, by decide, Tryd.func67.trans (congrArg some (by kernel_rfl))⟩,
Tryd.underlying0,
Tryd.isAgg0,
Tryd.sizeOf0,
Tryd.zeroValue0,
Tryd.underlying3,
Tryd.isAgg3,
Tryd.sizeOf3,
Tryd.zeroValue3,
Tryd.underlying4,
Tryd.isAgg4,
Tryd.sizeOf4,
Tryd.zeroValue4,
Tryd.underlying5,
Tryd.isAgg5,
Tryd.sizeOf5,
Tryd.zeroValue5,
Tryd.underlying9,
Tryd.isAgg9,
Tryd.sizeOf9,
Tryd.zeroValue9,
Tryd.underlying26,
Tryd.isAgg26,
Tryd.sizeOf26,
Tryd.zeroValue26,
Tryd.isAgg3,
Tryd.sizeOf3,
Tryd.underlying65,
Tryd.isAgg65,
Tryd.sizeOf65,
Tryd.zeroValue65,
Tryd.underlying74,
Tryd.isAgg74,
Tryd.sizeOf74,
Tryd.zeroValue74,
Tryd.underlying77,
Tryd.isAgg77,
Tryd.sizeOf77,
Tryd.zeroValue77,
Tryd.underlying78,
Tryd.isAgg78,
Tryd.sizeOf78,
Tryd.zeroValue78,
Tryd.underlying40,
Tryd.isAgg40,
Tryd.sizeOf40,
Tryd.zeroValue40,
Tryd.underlying84,
Tryd.isAgg84,
Tryd.sizeOf84,
Tryd.zeroValue84,
Tryd.underlying86,
Tryd.isAgg86,
Tryd.sizeOf86,
Tryd.zeroValue86,
Tryd.underlying87,
Tryd.isAgg87,
Tryd.sizeOf87,
Tryd.zeroValue87,
Tryd.underlying91,
Tryd.isAgg91,
Tryd.sizeOf91,
Tryd.zeroValue91,
Tryd.underlying93,
Tryd.isAgg93,
Tryd.sizeOf93,
Tryd.zeroValue93,
Tryd.underlying94,
Tryd.isAgg94,
Tryd.sizeOf94,
Tryd.zeroValue94⟩
end Go.Proofs
namespace Go.Eng
open Go.Proofs
def tabG (xs : List Sp) (t : Int) : List Nat := ((standG 0 xs).filter (fun p => decide (p.2.1 = t))).map Prod.fst
def insM (xs : List Sp) (l : List Nat) (i : Nat) : List Nat := l.takeWhile (fun m : Nat => decide ((atM xs m).2 < (atM xs i).2)) ++ i :: l.dropWhile (fun m : Nat => decide ((atM xs m).2 < (atM xs i).2))
/-- The rows of a table among the first k indexes, as the reference puts them in. -/
def rowsP (xs : List Sp) (t : Int) (k : Nat) : List Nat := (tabG (xs.take k) t).foldl (insM xs) []
def rowsM (xs : List Sp) (t : Int) : List Nat := if t = 0 then [] else rowsP xs t xs.length
def rowsF (xs : List Sp) (t : Int) : List Nat := if rightB xs then rowsM xs t else []
theorem mem_tabG {xs : List Sp} {t : Int} {i : Nat} (h : i ∈ tabG xs t) : (1 ≤ i ∧ i ≤ xs.length) ∧ (atM xs i).1 = t ∧ xs[i - 1]? = some (atM xs i) := by
  obtain ⟨p, hp, rfl⟩ := List.mem_map.1 h
  obtain ⟨h1, h2⟩ := List.mem_filter.1 hp
  obtain ⟨h3, h4⟩ := standG_mem h1
  have h5 : atM xs p.1 = p.2 := by
    unfold atM
    rw [if_pos (by omega), List.getD_eq_getElem?_getD, show ((p.1 : Int) - 1).toNat = p.1 - 1 - 0 by omega, h4]; rfl
  exact ⟨by omega, by rw [h5]; simpa using h2, by rw [h5]; simpa using h4⟩
theorem insM_perm (xs : List Sp) (l : List Nat) (i : Nat) : (insM xs l i).Perm (i :: l) := by
  unfold insM
  refine List.perm_middle.trans ?_
  rw [List.takeWhile_append_dropWhile]
theorem dropWhile_all {α : Type} {r : α → Int} {v : Int} : ∀ {l : List α}, l.Pairwise (fun x y => r x ≤ r y) → ∀ y ∈ l.dropWhile (fun m => decide (r m < v)), v ≤ r y
  | [], _, y, hy => by cases hy
  | x :: l, h, y, hy => by
    obtain ⟨h1, h2⟩ := List.pairwise_cons.1 h
    by_cases hx : r x < v
    · rw [List.dropWhile_cons_of_pos (by simpa using hx)] at hy
      exact dropWhile_all h2 y hy
    · rw [List.dropWhile_cons_of_neg (by simpa using hx)] at hy
      rcases List.mem_cons.1 hy with rfl | hy
      · omega
      · have := h1 y hy; omega
theorem takeWhile_lt {α : Type} {r : α → Int} {v : Int} : ∀ {l : List α}, ∀ y ∈ l.takeWhile (fun m => decide (r m < v)), r y < v
  | [], y, hy => by cases hy
  | x :: l, y, hy => by
    by_cases hx : r x < v
    · rw [List.takeWhile_cons_of_pos (by simpa using hx)] at hy
      rcases List.mem_cons.1 hy with rfl | hy
      · exact hx
      · exact takeWhile_lt y hy
    · rw [List.takeWhile_cons_of_neg (by simpa using hx)] at hy; cases hy
theorem insM_sorted {xs : List Sp} {l : List Nat} {i : Nat} (h : l.Pairwise (fun x y : Nat => (atM xs x).2 ≤ (atM xs y).2)) : (insM xs l i).Pairwise (fun x y : Nat => (atM xs x).2 ≤ (atM xs y).2) := by
  unfold insM
  refine List.pairwise_append.2 ⟨h.sublist (List.takeWhile_sublist _), List.pairwise_cons.2 ⟨fun y hy => dropWhile_all (r := fun m : Nat => (atM xs m).2) h y hy, h.sublist (List.dropWhile_sublist _)⟩, fun x hx y hy => ?_⟩
  have h1 := takeWhile_lt (r := fun m : Nat => (atM xs m).2) x hx
  rcases List.mem_cons.1 hy with rfl | hy
  · omega
  · have := dropWhile_all (r := fun m : Nat => (atM xs m).2) h y hy; omega
theorem foldIns (xs : List Sp) : ∀ (l o : List Nat), o.Pairwise (fun x y : Nat => (atM xs x).2 ≤ (atM xs y).2) → (l.foldl (insM xs) o).Perm (l ++ o) ∧ (l.foldl (insM xs) o).Pairwise (fun x y : Nat => (atM xs x).2 ≤ (atM xs y).2)
  | [], o, h => ⟨List.Perm.refl _, h⟩
  | i :: l, o, h => by
    obtain ⟨h1, h2⟩ := foldIns xs l (insM xs o i) (insM_sorted h)
    refine ⟨h1.trans ?_, h2⟩
    exact ((insM_perm xs o i).append_left l).trans (List.perm_middle)
theorem tabG_succ {xs : List Sp} {t : Int} {k : Nat} {s : Sp} (h : xs[k]? = some s) (ht : t ≠ 0) : tabG (xs.take (k + 1)) t = tabG (xs.take k) t ++ if s.1 = t then [k + 1] else [] := by
  unfold tabG
  rw [standG_succ h, List.filter_append, List.map_append]
  congr 1
  by_cases h0 : s = (0, 0)
  · rw [if_pos h0, if_neg (by rw [h0]; exact fun e => ht e.symm)]; rfl
  · rw [if_neg h0]
    by_cases h1 : s.1 = t
    · simp [h1]
    · simp [h1]
theorem rowsP_succ {xs : List Sp} {t : Int} {k : Nat} {s : Sp} (h : xs[k]? = some s) (ht : t ≠ 0) : rowsP xs t (k + 1) = if s.1 = t then insM xs (rowsP xs t k) (k + 1) else rowsP xs t k := by
  unfold rowsP
  rw [tabG_succ h ht]
  by_cases h1 : s.1 = t
  · rw [if_pos h1, if_pos h1, List.foldl_append]; rfl
  · rw [if_neg h1, if_neg h1, List.append_nil]
theorem tabG_le (xs : List Sp) (t : Int) : (tabG xs t).length ≤ xs.length := by
  unfold tabG
  rw [List.length_map]
  exact Nat.le_trans (List.length_filter_le _ _) (standG_len 0 xs)
theorem rowsP_perm (xs : List Sp) (t : Int) (k : Nat) : (rowsP xs t k).Perm (tabG (xs.take k) t) := by
  have := (foldIns xs (tabG (xs.take k) t) [] List.Pairwise.nil).1
  rwa [List.append_nil] at this
theorem rowsP_len (xs : List Sp) (t : Int) (k : Nat) : (rowsP xs t k).length ≤ k := by
  rw [(rowsP_perm xs t k).length_eq]
  exact Nat.le_trans (tabG_le _ _) (by simp; omega)
theorem rowsM_perm {xs : List Sp} {t : Int} (ht : t ≠ 0) : (rowsM xs t).Perm (tabG xs t) := by
  unfold rowsM
  rw [if_neg ht]
  have := rowsP_perm xs t xs.length
  rwa [List.take_length] at this
theorem rowsM_sorted (xs : List Sp) (t : Int) : (rowsM xs t).Pairwise (fun x y : Nat => (atM xs x).2 ≤ (atM xs y).2) := by
  unfold rowsM
  split
  · exact List.Pairwise.nil
  · exact (foldIns xs _ [] List.Pairwise.nil).2
theorem right_spot {xs : List Sp} (hr : rightB xs = true) {p : Nat × Sp} (hp : p ∈ standG 0 xs) : spotB p.2 = true := by
  unfold rightB at hr
  simp only [Bool.and_eq_true] at hr
  have := hr.2.2.1
  unfold stB at this
  exact List.all_eq_true.1 this p hp
theorem tabG_0 {xs : List Sp} {t : Int} (hr : rightB xs = true) (ht : t ≤ 0) : tabG xs t = [] := by
  unfold tabG
  rw [List.filter_eq_nil_iff.2 ?_]; rfl
  intro p hp h
  have h1 := right_spot hr hp
  unfold spotB at h1
  simp at h1 h
  omega
theorem right_inj {xs : List Sp} (hr : rightB xs = true) {i j : Nat} {s : Sp} (hi : xs[i]? = some s) (hj : xs[j]? = some s) (h0 : 0 < s.1) : i = j := by
  have hR := (right_iff xs).1 hr
  rcases Nat.lt_trichotomy i j with h | h | h
  · exact absurd rfl ((hR.2.2 j s hj).2 h0 i s h hi)
  · exact h
  · exact absurd rfl ((hR.2.2 i s hi).2 h0 j s h hj)
theorem atM_row {xs : List Sp} (hr : rightB xs = true) (i : Int) : 0 ≤ (atM xs i).2 ∧ (atM xs i).2 ≤ 1048578 := by
  unfold atM
  split
  · rename_i h
    have hx : xs[(i - 1).toNat]? = some (xs.getD (i - 1).toNat (0, 0)) := by rw [List.getD_eq_getElem?_getD, List.getElem?_eq_getElem (by omega)]; rfl
    have h1 := (((right_iff xs).1 hr).2.2 _ _ hx).1
    rcases (spotR_iff _).1 h1 with h2 | h2
    · rw [h2]; simp
    · rw [spotB, decide_eq_true_eq] at h2; omega
  · simp
theorem rows_eq {xs : List Sp} {t : Int} (hr : rightB xs = true) {ys : List Nat} (hp : ys.Perm (tabG xs t)) (hs : ys.Pairwise (fun x y : Nat => (atM xs x).2 ≤ (atM xs y).2)) : ys = rowsM xs t := by
  rcases Int.lt_or_le 0 t with ht | ht
  · refine (hp.trans (rowsM_perm (by omega)).symm).eq_of_pairwise (fun a b ha hb h1 h2 => ?_) hs (rowsM_sorted xs t)
    obtain ⟨a1, a2, a3⟩ := mem_tabG (hp.mem_iff.1 ha)
    obtain ⟨b1, b2, b3⟩ := mem_tabG ((rowsM_perm (by omega)).mem_iff.1 hb)
    have e : atM xs a = atM xs b := Prod.ext (by rw [a2, b2]) (by omega)
    rw [e] at a3
    have := right_inj hr a3 b3 (by rw [b2]; exact ht)
    omega
  · rw [tabG_0 hr ht] at hp
    rw [hp.eq_nil]
    unfold rowsM
    by_cases h0 : t = 0
    · rw [if_pos h0]
    · rw [if_neg h0]
      have := rowsP_perm xs t xs.length
      rw [List.take_length, tabG_0 hr ht] at this
      exact this.eq_nil.symm
def enL (l : List Nat) : List Int := l.map fun i : Nat => (i : Int)
theorem enL_len (l : List Nat) : (enL l).length = l.length := by simp [enL]
abbrev VI := {i : Int // inK .i64 i}
instance : Inhabited VI := ⟨⟨0, by simp [inK]⟩⟩
theorem key_swo {α : Type} (f : α → Int) : Go.Sort.SWO (Go.Proofs.ltOf fun x y => f x - f y) where
  irrefl x := by simp [Go.Proofs.ltOf]
  trans x y z h1 h2 := by
    simp only [Go.Proofs.ltOf, decide_eq_true_eq] at *; omega
  ntrans x y z h1 h2 := by
    simp only [Go.Proofs.ltOf, decide_eq_false_iff_not, Int.not_lt] at *; omega
attribute [local irreducible] J JL JD JX JXat OpR OpG Ret RetV Is Blk Row MapC
set_option maxRecDepth 100000
set_option maxHeartbeats 1000000
set_option linter.unusedSimpArgs false
set_option linter.unusedVariables false
theorem cmp38_r (w : World) (hG : Gz w) (b : Nat) (a : Option Addr) (n c : Nat) (xs : List Sp) (hr : rightB xs = true) (h : Sl dSp All w a n c xs) (hb : w.heap[b]? = some (.cells #[.slice a n c] 24 (0, 0))) (i j : Int) (hi : inK .i64 i) (hj : inK .i64 j) :
    Ret Tryd.prog 38 (#[.int .i64 i, .int .i64 j] ++ #[ptr b]) w fun v w' => v = .int .i64 ((atM xs i).2 - (atM xs j).2) ∧ Ext w w' := by
  refine Ret_of (l := [_, _, _]) Tryd.func38 rfl Tryd.ntmps38 (by simp) ?_
  have hs := St.init w
  have h1 := atM_row hr i
  have h2 := atM_row hr j
  have hb1 := (Array.getElem?_eq_some_iff.1 hb).1
  repeat' (first
    | ((apply ax_c; apply JX_cF 36; exact rfl; (intro W X hN hs; exact OpR_callF en36 rfl (at_r _ (hG.st hs) a n c xs i (h.st hs) hi)); (rintro _ _ _ _ ⟨rfl, hE⟩; first | exact hE | exact Fresh.ext hf); rintro W X _ _ hN hs ⟨rfl, hE⟩; have hs := hs.ext hE; (try simp only [List.cons_append, List.nil_append] at hs); refine JX.at hs ?_))
    | ((apply ax_c; apply JX_cF 36; exact rfl; (intro W X hN hs; exact OpR_callF en36 rfl (at_r _ (hG.st hs) a n c xs j (h.st hs) hj)); (rintro _ _ _ _ ⟨rfl, hE⟩; first | exact hE | exact Fresh.ext hf); rintro W X _ _ hN hs ⟨rfl, hE⟩; have hs := hs.ext hE; (try simp only [List.cons_append, List.nil_append] at hs); refine JX.at hs ?_))
    | (apply JL_nil)
    | ((first | (apply JL_pure) | (apply JX_f; exact rfl; intro W X hs)); (first
      | (apply as_load; exact OpR_load_cells (T := 24) (vs := [.slice a n c]) rfl (fun k u hu => hs.old_cell (cell_blk hb (by simpa using hu))) rfl is_rfl)
      | (apply as_move; exact OpR_move rfl is_rfl)
      | (apply as_assign; exact OpR_assign rfl is_rfl)
      | (apply as_sub; exact OpR_sub rfl rfl (by omega) is_rfl)
      | (apply as_field; exact OpR_field rfl rfl rfl is_rfl)); first | (exact rfl; exact rfl) | exact rfl)
    | (apply J_seq)
    | (apply J_region)
    | (apply aj_draw; (refine J_drawX (id := 1) [0, 0, 3, 7, 0, 0, 55, 119, 255, 511] [(0, 0), (1, 0), (4, 0), (5, 0), (2, 1), (3, 0), (6, 1), (7, 0), (8, 0), (9, 0)] [] hs mixed (by kernel_rfl) (by kernel_rfl) (by kernel_rfl) (by kernel_rfl) (by kernel_rfl) ?_))
    | (refine JX_done (fun W hs => ?_))
    | (apply JD_done))
  refine J_leave Tryd.func38 rfl (.tmp rfl .nil) ⟨rfl, hs.frm.ext⟩
theorem sort37_r (w0 w : World) (hE : Ext w0 w) (hG : Gz w0) (b : Nat) (a : Option Addr) (n c : Nat) (xs : List Sp) (hr : rightB xs = true) (h : Sl dSp All w0 a n c xs) (hb : w.heap[b]? = some (.cells #[.slice a n c] 24 (0, 0)))
    (ao : Option Addr) (no co e : Nat) (l : List Nat) (hl : ∀ i ∈ l, inK .i64 (i : Int)) (hrow : Held w [Row ao no co e 1 ((enL l).map (.int .i64))]) (hm : no ≤ 4000000000) (hap : ∀ k, afoot ao k → w0.heap.size ≤ k ∧ k ≠ b) :
    Ret Tryd.prog 37 #[.slice ao no co, .func (.func 38) #[] #[ptr b]] w fun _ w' => ∃ ys : List Nat, ys.Perm l ∧ ys.Pairwise (fun x y : Nat => (atM xs x).2 ≤ (atM xs y).2) ∧ Turn w [Row ao no co e 1 ((enL l).map (.int .i64))] w' [Row ao no co e 1 ((enL ys).map (.int .i64))] := by
  obtain ⟨ls, hls⟩ : ∃ ls : List VI, ls = (enL l).pmap (fun p h => ⟨p, h⟩) (by intro p hp; obtain ⟨i, hi, rfl⟩ := List.mem_map.1 hp; exact hl i hi) := ⟨_, rfl⟩
  have e1 : ls.map Subtype.val = enL l := by rw [hls, List.map_pmap]; simp
  have e2 : ls.map (fun p => Value.int .i64 p.1) = (enL l).map (.int .i64) := by
    have : ls.map (fun p => Value.int .i64 p.1) = (ls.map Subtype.val).map (Value.int .i64) := by rw [List.map_map]; rfl
    rw [this, e1]
  have hrow' : Held w [Row ao no co e 1 (ls.map fun p => Value.int .i64 p.1)] := by rw [e2]; exact hrow
  have hs := sort1 (P := Tryd.prog) (ρ := Tryd.sort37_ren) (enc := fun p : VI => Value.int .i64 p.1) Tryd.sort37 (fun p => rfl) (fun x y => (atM xs x.1).2 - (atM xs y.1).2) (key_swo fun x : VI => (atM xs x.1).2) (g := 38) en38 #[ptr b] hrow' hm (fun W hW x y => by
    have hold : ∀ k, k < w0.heap.size → W.heap[k]? = w0.heap[k]? := fun k hk => (hW.old k (Nat.lt_of_lt_of_le hk hE.size) (fun hf => by have := (hap k hf).1; omega)).trans (hE.block k hk)
    exact cmp38_r W (fun j v hj => (World.cell?_of_block (hold 0 hG.lt)).trans (hG j v hj)) b a n c xs hr (h.loc (fun k _ hk => hold k hk)) ((hW.old b (Array.getElem?_eq_some_iff.1 hb).1 (fun hk => (hap b hk).2 rfl)).trans hb) x.1 y.1 x.2 y.2)
  refine hs.mono fun v w' ⟨ys, hp, hso, ht⟩ => ?_
  have hp1 : (ys.map Subtype.val).Perm (enL l) := by rw [← e1]; exact hp.map _
  have hnn : ∀ x ∈ ys, (x.1.toNat : Int) = x.1 := fun x hx => by
    have := hp1.mem_iff.1 (List.mem_map_of_mem (f := Subtype.val) hx)
    obtain ⟨i, _, hi⟩ := List.mem_map.1 this; omega
  have e4 : ys.map Subtype.val = enL (ys.map fun p => p.1.toNat) := by
    unfold enL; rw [List.map_map]
    exact List.map_congr_left fun x hx => (hnn x hx).symm
  refine ⟨ys.map fun p => p.1.toNat, ?_, ?_, ?_⟩
  · have h1 := hp1.map Int.toNat
    have h2 : (enL l).map Int.toNat = l := by unfold enL; rw [List.map_map]; exact (List.map_congr_left fun i _ => by simp).trans (List.map_id l)
    rw [h2, List.map_map] at h1
    exact h1
  · rw [List.pairwise_map]
    refine hso.imp_of_mem (fun {x y} hx hy hxy => ?_)
    rw [hnn x hx, hnn y hy]; omega
  · rw [e2] at ht
    have e3 : (ys.map fun p => Value.int .i64 p.1) = (enL (ys.map fun p => p.1.toNat)).map (.int .i64) := by
      rw [← e4, List.map_map]; rfl
    rw [e3] at ht; exact ht
end Go.Eng
/- Record: Rows. -/
namespace Go.Eng
open Go.Proofs
/-- The rows of a table among the first k that stand. -/
def tabK (xs : List Sp) (t : Int) (k : Nat) : List Nat := (((standG 0 xs).take k).filter (fun p => decide (p.2.1 = t))).map Prod.fst
theorem tabK_succ {xs : List Sp} {t : Int} {k : Nat} {p : Nat × Sp} (h : (standG 0 xs)[k]? = some p) : tabK xs t (k + 1) = tabK xs t k ++ if p.2.1 = t then [p.1] else [] := by
  unfold tabK
  rw [List.take_add_one, h, List.filter_append, List.map_append]
  congr 1
  by_cases h1 : p.2.1 = t
  · simp [h1]
  · simp [h1]
theorem tabK_len (xs : List Sp) (t : Int) (k : Nat) : (tabK xs t k).length ≤ xs.length := by
  unfold tabK
  rw [List.length_map]
  refine Nat.le_trans (List.length_filter_le _ _) (Nat.le_trans ?_ (standG_len 0 xs))
  simp; omega
theorem tabK_all (xs : List Sp) (t : Int) : tabK xs t (standG 0 xs).length = tabG xs t := by unfold tabK tabG; rw [List.take_length]
theorem row_foot {a : Option Addr} {n c e sz : Nat} {xs : List Value} {k : Nat} (h : afoot a k) : (Row a n c e sz xs).foot k := h
attribute [local irreducible] J JL JD JX JXat OpR OpG Ret RetV Is Blk Row MapC
set_option maxRecDepth 100000
set_option maxHeartbeats 1000000
set_option linter.unusedSimpArgs false
set_option linter.unusedVariables false
theorem Rows_r (w : World) (hG : Gz w) (a : Option Addr) (n c : Nat) (xs : List Sp) (t : Int) (h : Sl dSp All w a n c xs) :
    Ret Tryd.prog 15 #[.agg #[.slice a n c], .int .i64 t] w fun v w' => ∃ a' c', v = .slice a' (rowsF xs t).length c' ∧ Fresh w w' [Row a' (rowsF xs t).length c' 3 1 ((enL (rowsF xs t)).map (.int .i64))] := by
  refine Ret_of (l := [_, _]) Tryd.func15 rfl Tryd.ntmps15 (by simp) ?_
  have hs := St.init w
  have hl := h.len
  unfold rowsF
  by_cases hr : rightB xs = true
  · rw [if_pos hr]
    have hle : xs.length ≤ 1048578 := ((right_iff xs).1 hr).1
    obtain ⟨st, hst⟩ : ∃ st, st = standG 0 xs := ⟨_, rfl⟩
    have hstl : st.length ≤ xs.length := by rw [hst]; exact standG_len 0 xs
    repeat' (first
      | ((apply al_call 11; refine JL_o (by exact OpR_callF en11 rfl (check_v (hG.st hs) (h.st hs) hr)) rfl rfl ?_; rintro _ _ ⟨rfl, hE⟩; have hs := hs.ext hE; (try simp only [List.cons_append, List.nil_append] at hs)))
      | ((apply al_call 33; refine JL_o (by exact OpR_callF en33 rfl (standing_r _ _ n c)) rfl rfl ?_; rintro _ _ ⟨bi, rfl, hf⟩; have hs := hs.fresh hf; (try simp only [List.cons_append, List.nil_append] at hs)))
      | (apply JL_nil)
      | ((apply JL_pure); (first
      | (apply as_assign; exact OpR_assign rfl is_rfl)
      | (apply as_load; exact OpR_load_agg' hs rfl is_rfl)
      | (apply as_binOp; exact OpR_ibin rfl rfl rfl is_rfl)); first | (exact rfl; exact rfl) | exact rfl)
      | (apply J_seq)
      | (apply J_region)
      | (apply J_block)
      | (apply J_skip)
      | (apply al_none (t := 2); refine JL_o (by apply as_box; exact OpR_box' hs rfl) rfl rfl ?_; rintro _ _ ⟨b2, rfl, hb2, hs, hE⟩)
      | (apply al_none (t := 3); refine JL_o (by apply as_box; exact OpR_box' hs rfl) rfl rfl ?_; rintro _ _ ⟨b3, rfl, hb3, hs, hE⟩)
      | (apply al_none (t := 5); refine JL_o (by apply as_alloc; exact OpR_alloc' hs) rfl rfl ?_; rintro _ _ ⟨b5, rfl, hb5, hs, hE⟩)
      | (apply aj_cond; refine J_cond_f rfl (by first | assumption | rfl | exact decide_eq_true (by first | assumption | omega) | exact decide_eq_false (by first | assumption | omega)) ?_))
    have hbi := hs.blk (b := bi)
    have hbl := hs.lt (b := bi)
    have hs := hs.nilRow 3 1
    have hs : St w NoF _ ([Blk b5 (.cells #[.slice none 0 0] 26 (0, 0)), Row none 0 0 3 1 ((enL (tabK xs t 0)).map (.int .i64)), Blk b3 (.cells #[.int .i64 t] 3 (0, 0))] ++ [Blk bi _, Blk b2 _]) := hs.sel [2, 0, 3, 1, 4] (by decide)
    refine J_range (ps := [13, 14]) hs rfl ⟨47, #[ptr bi], rfl, en47⟩ (standIt_ok _ (hG.st hs) bi _ n c 24 xs (h.st hs) hbi)
      (fun k A => ∃ a' c', A = [Blk b5 (.cells #[.slice a' (tabK xs t k).length c'] 26 (0, 0)), Row a' (tabK xs t k).length c' 3 1 ((enL (tabK xs t k)).map (.int .i64)), Blk b3 (.cells #[.int .i64 t] 3 (0, 0))])
      (fun j A => False) ⟨_, _, rfl⟩ ?_ (by decide) ?_ ?_ ?_ ?_
    · rintro k (rfl | rfl | hk)
      · exact ⟨rfl, fun hk => hs.sepA (.head _) hk (blk_foot _ _), hbl⟩
      · exact ⟨rfl, fun hf => by have := hs.foot0 0 hf; have := hG.lt; omega, (hG.st hs).lt⟩
      · have h1 := h.belowF k hk
        exact ⟨rfl, fun hf => by have := hs.foot0 k hf; omega, Nat.lt_of_lt_of_le h1 hs.frm.size⟩
    · rintro i vals cx ⟨_, _, rfl, _⟩; rfl
    · rintro l D tm k w1 A1 cx vals hD hDl hk ⟨a', c', rfl⟩ ⟨p, hp, rfl, rfl⟩ hh -
      have hs : St _ _ _ [_, _, _, _] := hh.st
      have hstp := tabK_succ (t := t) hp
      have htl := tabK_len xs t k
      by_cases hq : p.2.1 = t
      · rw [if_pos hq] at hstp
        have hL : (tabK xs t (k + 1)).length = (tabK xs t k).length + 1 := by rw [hstp]; simp
        have hEe : (enL (tabK xs t (k + 1))).map (Value.int .i64) = (enL (tabK xs t k)).map (.int .i64) ++ [.int .i64 p.1] := by rw [hstp]; simp [enL]
        repeat' (first
          | ((refine J_beginRound hs (fun w2 hs => ?_)))
          | ((apply al_none; refine JL_o (by apply as_b_append; exact OpR_append (xs := (enL (tabK xs t k)).map (.int .i64)) hs rfl rfl (src_blk1 hs.blk rfl) plain_blk rfl (by omega) (by unfold maxLen; omega)) rfl rfl ?_; rintro _ _ ⟨a3, c3, rfl, hs, hF, hnil⟩))
          | (apply JL_nil)
          | ((apply JL_pure); (first
      | (apply as_move; exact OpR_move rfl is_rfl)
      | (apply as_assign; exact OpR_assign rfl is_rfl)
      | (apply as_fieldAddr; exact OpR_fieldAddr0 rfl rfl is_rfl)
      | (apply as_load; exact OpR_load' hs rfl rfl is_rfl)
      | (apply as_binOp; exact OpR_ibin rfl rfl rfl is_rfl)); first | (exact rfl; exact rfl) | exact rfl)
          | (apply J_seq)
          | (apply J_region)
          | (apply J_block)
          | (apply J_inBlock)
          | (apply al_none (t := 7); refine JL_o (by apply as_alloc; exact OpR_alloc' hs) rfl rfl ?_; rintro _ _ ⟨b7, rfl, hb7, hs, hE⟩)
          | (apply al_none (t := 21); refine JL_o (by apply as_buildSlice; exact OpR_buildSlice hs rfl (by omega) rfl) rfl rfl ?_; rintro _ _ ⟨b21, rfl, hb21, hs, hE⟩)
          | (apply al_unit; refine JL_u (by apply as_store; exact OpR_store' hs rfl rfl rfl) rfl ?_; rintro _ _ ⟨hs, hF⟩)
          | (apply aj_cond; refine J_dec_t rfl (by first | assumption | omega) ?_))
        have hA : [Blk b5 (.cells #[.slice a3 ((tabK xs t k).length + 1) c3] 26 (0, 0)), Row a3 ((tabK xs t k).length + 1) c3 3 1 ((enL (tabK xs t k)).map (.int .i64) ++ [.int .i64 p.1]), Blk b3 (.cells #[.int .i64 t] 3 (0, 0))] = [Blk b5 (.cells #[.slice a3 (tabK xs t (k + 1)).length c3] 26 (0, 0)), Row a3 (tabK xs t (k + 1)).length c3 3 1 ((enL (tabK xs t (k + 1))).map (.int .i64)), Blk b3 (.cells #[.int .i64 t] 3 (0, 0))] := by rw [hL, hEe]
        have hs : St _ _ _ [_, _, _, _] := hs.sel [2, 3, 4, 5] (by decide)
        refine J_roundEnd hs (fun w3 hs => .inl ⟨rfl, _, ⟨a3, c3, hA⟩, St.turned (M := []) hs⟩)
      · rw [if_neg hq, List.append_nil] at hstp
        repeat' (first
          | ((refine J_beginRound hs (fun w2 hs => ?_)))
          | (apply JL_nil)
          | ((apply JL_pure); (first
      | (apply as_assign; exact OpR_assign rfl is_rfl)
      | (apply as_fieldAddr; exact OpR_fieldAddr0 rfl rfl is_rfl)
      | (apply as_load; exact OpR_load' hs rfl rfl is_rfl)
      | (apply as_binOp; exact OpR_ibin rfl rfl rfl is_rfl)); first | (exact rfl; exact rfl) | exact rfl)
          | (apply J_seq)
          | (apply J_region)
          | (apply J_block)
          | (apply J_inBlock)
          | (apply J_skip)
          | (apply al_none (t := 7); refine JL_o (by apply as_alloc; exact OpR_alloc' hs) rfl rfl ?_; rintro _ _ ⟨b7, rfl, hb7, hs, hE⟩)
          | (apply al_unit; refine JL_u (by apply as_store; exact OpR_store' hs rfl rfl rfl) rfl ?_; rintro _ _ ⟨hs, hF⟩)
          | (apply aj_cond; refine J_dec_f rfl (by first | assumption | omega) ?_))
        have hA : [Blk b5 (.cells #[.slice a' (tabK xs t k).length c'] 26 (0, 0)), Row a' (tabK xs t k).length c' 3 1 ((enL (tabK xs t k)).map (.int .i64)), Blk b3 (.cells #[.int .i64 t] 3 (0, 0))] = [Blk b5 (.cells #[.slice a' (tabK xs t (k + 1)).length c'] 26 (0, 0)), Row a' (tabK xs t (k + 1)).length c' 3 1 ((enL (tabK xs t (k + 1))).map (.int .i64)), Blk b3 (.cells #[.int .i64 t] 3 (0, 0))] := by rw [hstp]
        have hs : St _ _ _ [_, _, _, _] := hs.sel [1, 2, 3, 4] (by decide)
        refine J_roundEnd hs (fun w3 hs => .inl ⟨rfl, _, ⟨a', c', hA⟩, St.turned (M := []) hs⟩)
    · rintro w2 D A2 ⟨a', c', rfl⟩ hs
      rw [tabK_all] at hs
      have hs : St w NoF _ [_, _, _, _, _, _] := hs
      have htl := tabK_len xs t (standG 0 xs).length
      rw [tabK_all] at htl
      have hlk : ∀ i ∈ tabG xs t, inK .i64 ((i : Nat) : Int) := fun i hi => by have := (mem_tabG hi).1; unfold inK; simp only [IntKind.min, IntKind.max, IntKind.bits, IntKind.signed]; simp; omega
      have hs2 : St w NoF _ ([Row a' (tabG xs t).length c' 3 1 ((enL (tabG xs t)).map (.int .i64))] ++ [Blk D _, Blk b5 _, Blk b2 (.cells #[.slice a n c] 24 (0, 0))]) := hs.sel [2, 0, 1, 5] (by decide)
      have hap : ∀ k, afoot a' k → w.heap.size ≤ k ∧ k ≠ b2 := fun k hk => ⟨hs2.foot0 k ⟨_, .head _, row_foot hk⟩, fun e => hs2.sepA (A := [_]) (k := k) (.tail _ (.tail _ (.head _))) ⟨_, .head _, row_foot hk⟩ (by subst e; exact blk_foot _ _)⟩
      repeat' (first
        | ((apply al_none (t := 25); refine JL_o (OpR_callF en37 rfl (sort37_r w _ hs2.frm.ext hG b2 a n c xs hr h hs.blk a' _ c' 3 (tabG xs t) hlk (St.held (A := [_]) hs2) (by omega) hap)) rfl rfl ?_; rintro _ _ ⟨ys, hp, hso, ht⟩; have hs : St w NoF _ [_, _, _, _] := St.take (A := [_]) (A' := [_]) hs2 ht; have hye := rows_eq hr hp hso; have hlg := hp.length_eq; rw [hye] at hs hlg; rw [← hlg] at hs ⊢))
        | (apply JL_nil)
        | ((apply JL_pure); (first
      | (apply as_assign; exact OpR_assign rfl is_rfl)
      | (apply as_load; exact OpR_load' hs rfl rfl is_rfl)
      | (apply as_makeFunc; exact OpR_func rfl is_rfl)); first | (exact rfl; exact rfl) | exact rfl)
        | (apply J_seq)
        | (apply J_region)
        | (apply J_inBlock))
      have hs : St w NoF _ [_, _, _, _] := hs.sel [1, 0, 2, 3] (by decide)
      refine J_retL (Lv_coll hs (fun w3 hs => Lv_nil Tryd.func15 rfl (.tmp rfl .nil) ⟨_, _, rfl, hs.out (.cons_cons _ (List.nil_sublist _))⟩))
    · rintro w2 D A2 j hf hs; exact hf.elim
  · have hr' : rightB xs = false := by simpa using hr
    rw [if_neg hr]
    repeat' (first
      | ((apply al_call 11; refine JL_o (by exact OpR_callF en11 rfl (check_v (hG.st hs) (h.st hs) hr')) rfl rfl ?_; rintro _ _ ⟨rfl, hE⟩; have hs := hs.ext hE; (try simp only [List.cons_append, List.nil_append] at hs)))
      | (apply JL_nil)
      | ((apply JL_pure); (first
      | (apply as_assign; exact OpR_assign rfl is_rfl)
      | (apply as_load; exact OpR_load_agg' hs rfl is_rfl)
      | (apply as_binOp; exact OpR_ibin rfl rfl rfl is_rfl)); first | (exact rfl; exact rfl) | exact rfl)
      | (apply J_seq)
      | (apply J_region)
      | (apply al_none (t := 2); refine JL_o (by apply as_box; exact OpR_box' hs rfl) rfl rfl ?_; rintro _ _ ⟨b2, rfl, hb2, hs, hE⟩)
      | (apply al_none (t := 3); refine JL_o (by apply as_box; exact OpR_box' hs rfl) rfl rfl ?_; rintro _ _ ⟨b3, rfl, hb3, hs, hE⟩)
      | (apply aj_cond; refine J_cond_t rfl (by first | assumption | rfl | exact decide_eq_true (by first | assumption | omega) | exact decide_eq_false (by first | assumption | omega)) ?_))
    have hs := hs.nilRow 3 1
    refine J_leave Tryd.func15 rfl (.tmp rfl .nil) ⟨_, _, rfl, hs.out (.cons_cons _ (List.nil_sublist _))⟩
end Go.Eng
/- Record: the reference's Rows. -/
namespace Go.Eng
open Go.Proofs
theorem insM_at {xs : List Sp} {l : List Nat} {i m : Nat} (h1 : ∀ y ∈ l.take m, (atM xs (y : Nat)).2 < (atM xs i).2) (h2 : m = l.length ∨ ∃ y : Nat, l[m]? = some y ∧ ¬ (atM xs y).2 < (atM xs i).2) : insM xs l i = l.take m ++ i :: l.drop m := by
  unfold insM
  have e : l = l.take m ++ l.drop m := (List.take_append_drop _ _).symm
  have hd : (l.drop m).takeWhile (fun y : Nat => decide ((atM xs y).2 < (atM xs i).2)) = [] ∧ (l.drop m).dropWhile (fun y : Nat => decide ((atM xs y).2 < (atM xs i).2)) = l.drop m := by
    rcases h2 with h2 | ⟨y, hy, hn⟩
    · rw [h2, List.drop_length]; exact ⟨rfl, rfl⟩
    · obtain ⟨hm, rfl⟩ := List.getElem?_eq_some_iff.1 hy
      rw [List.drop_eq_getElem_cons hm]
      exact ⟨List.takeWhile_cons_of_neg (by simpa using hn), List.dropWhile_cons_of_neg (by simpa using hn)⟩
  rw [show l.takeWhile (fun y : Nat => decide ((atM xs y).2 < (atM xs i).2)) = l.take m by
      rw [e, List.takeWhile_append_of_pos (fun y hy => decide_eq_true (h1 y hy)), hd.1, List.append_nil, ← e],
    show l.dropWhile (fun y : Nat => decide ((atM xs y).2 < (atM xs i).2)) = l.drop m by
      rw [e, List.dropWhile_append_of_pos (fun y hy => decide_eq_true (h1 y hy)), hd.2, ← e]]
theorem addr_add0 (a : Option Addr) : a.map (·.add 0) = a := by cases a <;> simp [Addr.add]
theorem one_enL (l : List Nat) : ∀ u ∈ (enL l).map (Value.int .i64), u.oneCell' = true := fun u hu => by
  obtain ⟨x, _, rfl⟩ := List.mem_map.1 hu; rfl
theorem src_take {w : World} {a : Option Addr} {c m e : Nat} {l : List Nat} (h : RowV w a l.length c e 1 ((enL l).map (.int .i64))) (hm : m ≤ l.length) : Src w a m 1 ((enL (l.take m)).map (.int .i64)) := by
  have h1 := h.srcPart (one_enL l) (off := 0) (m := m) (a' := a) (fun ha => by
    obtain ⟨q1, q2, q3, q4⟩ := h
    rcases q4 with ⟨_, h0⟩ | ⟨b, o, cur, h0, _⟩
    · omega
    · rw [ha] at h0; cases h0) (by omega) (fun _ => (addr_add0 a).symm)
  have e1 : (((enL l).map (Value.int .i64)).drop 0).take m = (enL (l.take m)).map (.int .i64) := by simp [enL, List.map_take]
  rw [e1] at h1; exact h1
theorem src_drop {w : World} {a a' : Option Addr} {c m e : Nat} {l : List Nat} (h : RowV w a l.length c e 1 ((enL l).map (.int .i64))) (hm : m ≤ l.length) (ha : (if ((c : Nat) : Int) = ((m : Nat) : Int) then a else a.map (·.add (((m : Nat) : Int).toNat * 1))) = a') :
    Src w a' (l.length - m) 1 ((enL (l.drop m)).map (.int .i64)) ∧ (0 < l.length - m → PlainA a') := by
  have hc := h.2.1
  have hn : a = none → l.length = 0 := fun ha => by
    obtain ⟨q1, q2, q3, q4⟩ := h
    rcases q4 with ⟨_, h0⟩ | ⟨b, o, cur, h0, _⟩
    · omega
    · rw [ha] at h0; cases h0
  have hmap : 0 < l.length - m → a' = a.map (·.add m) := fun h0 => by
    rw [← ha, if_neg (by omega), Int.toNat_natCast, Nat.mul_one]
  refine ⟨?_, fun h0 => ?_⟩
  · have h1 := h.srcPart (one_enL l) (off := m) (m := l.length - m) (a' := a') (fun h0 => by
      rcases Nat.eq_zero_or_pos (l.length - m) with h1 | h1
      · exact h1
      · have := hmap h1
        rw [h0] at this
        cases a with
        | none => have := hn rfl; omega
        | some ad => cases this) (by omega) hmap
    have e1 : (((enL l).map (Value.int .i64)).drop m).take (l.length - m) = (enL (l.drop m)).map (.int .i64) := by
      rw [List.take_of_length_le (by simp [enL])]; simp [enL, List.map_drop]
    rw [e1] at h1; exact h1
  · rw [hmap h0]
    have hp := h.plain
    intro ad had
    cases a with
    | none => cases had
    | some a0 =>
      cases had
      have := hp a0 rfl
      show (a0.add m).spot = none
      unfold Addr.add
      split <;> first | exact this | rfl
attribute [local irreducible] Hold J JL JD JX JXat OpR OpG Ret RetV Is Blk Row MapC
set_option maxRecDepth 100000
set_option maxHeartbeats 1000000
set_option linter.unusedSimpArgs false
set_option linter.unusedVariables false
theorem refRows_r (w : World) (a : Option Addr) (n c : Nat) (xs : List Sp) (t : Int) (h : Sl dSp All w a n c xs) (hn2 : n ≤ 1048578) :
    Ret Tryd.prog 17 #[.agg #[.slice a n c], .int .i64 t] w fun v w' => ∃ a' c', v = .slice a' (rowsM xs t).length c' ∧ Fresh w w' [Row a' (rowsM xs t).length c' 3 1 ((enL (rowsM xs t)).map (.int .i64))] := by
  refine Ret_of (l := [_, _]) Tryd.func17 rfl Tryd.ntmps17 (by simp) ?_
  have hs := St.init w
  have hl := h.len
  have hc := h.le
  have hm := h.cap
  unfold maxLen at hm
  by_cases ht : t = 0
  · subst ht
    have hrm : rowsM xs 0 = [] := by unfold rowsM; rw [if_pos rfl]
    rw [hrm]
    repeat' (first
      | (apply JL_nil)
      | ((apply JL_pure); (first
      | (apply as_move; exact OpR_move rfl is_rfl)
      | (apply as_assign; exact OpR_assign rfl is_rfl)
      | (apply as_fieldAddr; exact OpR_fieldAddr0 rfl rfl is_rfl)
      | (apply as_load; exact OpR_load' hs rfl rfl is_rfl)
      | (apply as_b_len; exact OpR_len rfl is_rfl)); first | (exact rfl; exact rfl) | exact rfl)
      | (apply J_seq)
      | (apply J_region)
      | (apply J_block)
      | (apply al_none (t := 2); refine JL_o (by apply as_box; exact OpR_box' hs rfl) rfl rfl ?_; rintro _ _ ⟨b2, rfl, hb2, hs, hE⟩))
    have hs := hs.nilRow 3 1
    refine J_loopK (α := Nat) [(1, _), (2, _), (10, _), (11, _)] (fun k => [(5, .slice none 0 0), (12, .int .i64 k)]) (fun k w' => St w NoF w' [Row none 0 0 3 1 [], Blk b2 (.cells #[.slice a n c] 24 (0, 0))] ∧ k ≤ n) (fun k => n - k) 0 ⟨hs, by omega⟩ (by repeat' (first | exact trivial | exact rfl | apply And.intro)) ?_
    rintro k w' ⟨hs1, hk⟩ ih
    have hs : St w NoF w' [_, _] := hs1
    by_cases hlt : k < n
    · obtain ⟨p1, o1, rfl⟩ := h.sl.addr (by omega)
      have hx : xs[k]? = some xs[k] := List.getElem?_eq_getElem (by omega)
      obtain ⟨x, hxd⟩ : ∃ x, x = xs[k] := ⟨_, rfl⟩
      rw [← hxd] at hx
      repeat' (first
        | (apply JL_nil)
        | ((apply JL_pure); (first
      | (apply as_load; first | exact OpR_load' hs rfl rfl is_rfl | exact OpR_load_agg' hs rfl is_rfl | exact OpR_load_el (h.st hs) hx rfl rfl is_rfl)
      | (apply as_move; exact OpR_move rfl is_rfl)
      | (apply as_assign; exact OpR_assign rfl is_rfl)
      | (apply as_add; exact OpR_addn rfl rfl (by omega) (by first | (simp only [Int.reduceAdd]; exact rfl) | exact rfl) is_rfl)
      | (apply as_binOp; exact OpR_ibin rfl rfl rfl is_rfl)
      | (apply as_pick; exact OpR_pick_t rfl (by first | assumption | rfl | exact decide_eq_true (by first | assumption | omega) | exact decide_eq_false (by first | assumption | omega)) rfl is_rfl)
      | (apply as_indexAddr; exact OpR_indexAddr rfl rfl (by omega) (by omega) is_rfl)); first | (exact rfl; exact rfl) | exact rfl)
        | (apply J_seq)
        | (apply J_region)
        | (apply J_block)
        | (apply aj_exit; refine J_exit rfl ?_)
        | (apply J_skip)
        | (apply al_none (t := 7); refine JL_o (by apply as_alloc; exact OpR_alloc' hs) rfl rfl ?_; rintro _ _ ⟨b7, rfl, hb7, hs, hE⟩)
        | (apply al_unit; refine JL_u (by apply as_store; exact OpR_store' hs rfl rfl rfl) rfl ?_; rintro _ _ ⟨hs, hF⟩)
        | (apply al_guard; (refine JL_no rfl (by first | assumption | rfl | exact decide_eq_true (by first | assumption | omega) | exact decide_eq_false (by first | assumption | omega)) rfl ?_))
        | (apply aj_cond; first | refine J_dec_t rfl (by first | assumption | omega) ?_ | refine J_cond_t rfl (by first | assumption | rfl | exact decide_eq_true (by first | assumption | omega) | exact decide_eq_false (by first | assumption | omega)) ?_))
      refine ih (k + 1) _ _ ⟨hs.sel [1, 2] (by decide), by omega⟩ (by omega) (by repeat' (first | exact trivial | exact rfl | apply And.intro))
    · repeat' (first
        | (apply JL_nil)
        | ((apply JL_pure); (first
      | (apply as_move; exact OpR_move rfl is_rfl)
      | (apply as_assign; exact OpR_assign rfl is_rfl)
      | (apply as_binOp; exact OpR_ibin rfl rfl rfl is_rfl)); first | (exact rfl; exact rfl) | exact rfl)
        | (apply J_seq)
        | (apply J_region)
        | (apply aj_exit; refine J_exit rfl ?_)
        | (apply aj_cond; refine J_dec_f rfl (by first | assumption | omega) ?_))
      refine J_leave Tryd.func17 rfl (.tmp rfl .nil) ⟨_, _, rfl, hs.out (.cons_cons _ (List.nil_sublist _))⟩
  · repeat' (first
      | (apply JL_nil)
      | ((apply JL_pure); (first
      | (apply as_move; exact OpR_move rfl is_rfl)
      | (apply as_assign; exact OpR_assign rfl is_rfl)
      | (apply as_fieldAddr; exact OpR_fieldAddr0 rfl rfl is_rfl)
      | (apply as_load; exact OpR_load' hs rfl rfl is_rfl)
      | (apply as_b_len; exact OpR_len rfl is_rfl)); first | (exact rfl; exact rfl) | exact rfl)
      | (apply J_seq)
      | (apply J_region)
      | (apply J_block)
      | (apply al_none (t := 2); refine JL_o (by apply as_box; exact OpR_box' hs rfl) rfl rfl ?_; rintro _ _ ⟨b2, rfl, hb2, hs, hE⟩))
    have hs := hs.nilRow 3 1
    refine J_loopK (α := Nat × Option Addr × Nat) [(1, _), (2, _), (10, _), (11, _)] (fun g => [(5, .slice g.2.1 (rowsP xs t g.1).length g.2.2), (12, .int .i64 g.1)]) (fun g w' => St w NoF w' [Row g.2.1 (rowsP xs t g.1).length g.2.2 3 1 ((enL (rowsP xs t g.1)).map (.int .i64)), Blk b2 (.cells #[.slice a n c] 24 (0, 0))] ∧ g.1 ≤ n) (fun g => n - g.1) (0, none, 0) ⟨hs, by dsimp only; omega⟩ (by repeat' (first | exact trivial | exact rfl | apply And.intro)) ?_
    rintro ⟨k, ao, co⟩ w' ⟨hs1, hk⟩ ih
    dsimp only at hs1 hk ih ⊢
    by_cases hlt : k < n
    · obtain ⟨p1, o1, rfl⟩ := h.sl.addr (by omega)
      have hx : xs[k]? = some xs[k] := List.getElem?_eq_getElem (by omega)
      obtain ⟨x, hxd⟩ : ∃ x, x = xs[k] := ⟨_, rfl⟩
      rw [← hxd] at hx
      have hs : St w NoF w' [_, _] := hs1
      have hstp := rowsP_succ hx ht
      by_cases hq : x.1 = t
      · rw [if_pos hq] at hstp
        repeat' (first
          | (apply JL_nil)
          | ((first | (apply JL_pure) | (apply JL_pure_on; exact rfl; (first | assumption | exact rfl | exact decide_eq_true (by first | assumption | omega) | exact decide_eq_false (by first | assumption | omega)))); (first
      | (apply as_load; first | exact OpR_load' hs rfl rfl is_rfl | exact OpR_load_agg' hs rfl is_rfl | exact OpR_load_el (h.st hs) hx rfl rfl is_rfl)
      | (apply as_move; exact OpR_move rfl is_rfl)
      | (apply as_assign; exact OpR_assign rfl is_rfl)
      | (apply as_fieldAddr; exact OpR_fieldAddr0 rfl rfl is_rfl)
      | (apply as_binOp; exact OpR_ibin rfl rfl rfl is_rfl)
      | (apply as_pick; exact OpR_pick_f rfl (by first | assumption | rfl | exact decide_eq_true (by first | assumption | omega) | exact decide_eq_false (by first | assumption | omega)) rfl is_rfl)
      | (apply as_indexAddr; exact OpR_indexAddr rfl rfl (by omega) (by omega) is_rfl)); first | (exact rfl; exact rfl) | exact rfl)
          | (apply J_seq)
          | (apply J_region)
          | (apply J_block)
          | (apply J_skip)
          | (apply al_none (t := 7); refine JL_o (by apply as_alloc; exact OpR_alloc' hs) rfl rfl ?_; rintro _ _ ⟨b7, rfl, hb7, hs, hE⟩)
          | (apply al_unit; refine JL_u (by apply as_store; exact OpR_store' hs rfl rfl rfl) rfl ?_; rintro _ _ ⟨hs, hF⟩)
          | (apply aj_cond; first | refine J_dec_t rfl (by first | assumption | omega) ?_ | refine J_dec_f rfl (by first | assumption | omega) ?_))
        obtain ⟨l, hld⟩ : ∃ l, l = rowsP xs t k := ⟨_, rfl⟩
        have hlk := rowsP_len xs t k
        rw [← hld] at hs hstp hlk ⊢
        have hxa : atM xs ((k + 1 : Nat) : Int) = x := by
          unfold atM
          rw [if_pos (by omega), show (((k + 1 : Nat) : Int) - 1).toNat = k by omega, List.getD_eq_getElem?_getD, hx]; rfl
        refine J_loopK (α := Nat) [(1, _), (2, _), (5, _), (6, _), (7, _), (10, _), (11, _), (12, _)] (fun m => [(8, .int .i64 m)]) (fun m w1 => St w NoF w1 [Blk b7 (.cells #[.int .i64 x.1, .int .i64 x.2] 34 (0, 0)), Row ao l.length co 3 1 ((enL l).map (.int .i64)), Blk b2 (.cells #[.slice (some ⟨p1, o1, none⟩) n c] 24 (0, 0))] ∧ m ≤ l.length ∧ ∀ y ∈ l.take m, (atM xs (y : Nat)).2 < x.2) (fun m => l.length - m) 0 ⟨hs, by omega, by simp⟩ (by repeat' (first | exact trivial | exact rfl | apply And.intro)) ?_
        rintro m w1 ⟨hs2, hml, hj⟩ ih2
        have hs : St w NoF w1 [_, _, _] := hs2
        have hrow := hs.row ao l.length co
        have hco := hrow.2.1
        have hcm := hrow.2.2.1
        unfold maxLen at hcm
        have hex : (∃ y : Nat, l[m]? = some y ∧ (atM xs y).2 < x.2) ∨ (m = l.length ∨ ∃ y : Nat, l[m]? = some y ∧ ¬ (atM xs y).2 < x.2) := by
          by_cases h1 : m < l.length
          · by_cases h2 : (atM xs (l[m] : Nat)).2 < x.2
            · exact .inl ⟨_, List.getElem?_eq_getElem h1, h2⟩
            · exact .inr (.inr ⟨_, List.getElem?_eq_getElem h1, h2⟩)
          · exact .inr (.inl (by omega))
        rcases hex with ⟨y, hy, hlt2⟩ | hex
        · have hm1 := (List.getElem?_eq_some_iff.1 hy).1
          obtain ⟨p2, o2, rfl⟩ := (hs.row ao l.length co).some (by omega)
          have hcy : ((enL l).map (Value.int .i64))[m]? = some (.int .i64 (y : Nat)) := by simp [enL, hy]
          have hyk : inK .i64 ((y : Nat) : Int) := by
            have := mem_tabG ((rowsP_perm xs t k).mem_iff.1 (hld ▸ List.mem_of_getElem? hy))
            have h1 : (xs.take k).length ≤ xs.length := by simp; omega
            unfold inK; simp only [IntKind.min, IntKind.max, IntKind.bits, IntKind.signed]; simp; omega
          repeat' (first
            | ((apply ax_c; apply JX_cFg 16; exact rfl; exact rfl; exact (by first | assumption | rfl | exact decide_eq_true (by first | assumption | omega) | exact decide_eq_false (by first | assumption | omega)); (intro W X hN hs; exact OpR_callF en16 rfl (refAt_r _ (some ⟨p1, o1, none⟩) n c xs y (h.st hs) hyk)); (rintro _ _ _ _ ⟨rfl, hE⟩; first | exact hE | exact Fresh.ext hf); rintro W X _ _ hN hs ⟨rfl, hE⟩; have hs := hs.ext hE; (try simp only [List.cons_append, List.nil_append] at hs); refine JX.at hs ?_))
            | (apply JL_nil)
            | ((first | (apply JL_pure) | (apply JX_f; exact rfl; intro W X hs) | (apply JX_f_on; exact rfl; exact rfl; (first | assumption | exact rfl | exact decide_eq_true (by first | assumption | omega) | exact decide_eq_false (by first | assumption | omega)); intro W X hs)); (first
      | (apply as_load; first | exact OpR_load' hs rfl rfl is_rfl | exact OpR_load_agg' hs rfl is_rfl | exact OpR_loadRow (b := p2) (o := o2) (i := m) (n := l.length) (c := co) hs rfl hcy is_rfl)
      | (apply as_move; exact OpR_move rfl is_rfl)
      | (apply as_assign; exact OpR_assign rfl is_rfl)
      | (apply as_fieldAddr; exact OpR_fieldAddr0 rfl rfl is_rfl)
      | (apply as_add; exact OpR_addn rfl rfl (by omega) (by first | (simp only [Int.reduceAdd]; exact rfl) | exact rfl) is_rfl)
      | (apply as_binOp; exact OpR_ibin rfl rfl rfl is_rfl)
      | (apply as_pick; exact OpR_pick_t rfl (by first | assumption | rfl | exact decide_eq_true (by first | assumption | omega) | exact decide_eq_false (by first | assumption | omega)) rfl is_rfl)
      | (apply as_b_len; exact OpR_len rfl is_rfl)
      | (apply as_field; exact OpR_field rfl rfl rfl is_rfl)
      | (apply as_indexAddr; exact OpR_indexAddr rfl rfl (by omega) (by omega) is_rfl)); first | (exact rfl; exact rfl) | exact rfl)
            | (apply J_seq)
            | (apply J_region)
            | (apply J_block)
            | (apply J_inBlock)
            | (apply J_skip)
            | (apply aj_cond; refine J_dec_t rfl (by first | assumption | omega) ?_)
            | (apply aj_draw; (refine J_drawX (id := 7) [0, 0, 2, 7, 15, 31, 31, 31, 223, 479, 1023, 2047, 31, 4127, 16383, 32767] [(0, 0), (1, 0), (2, 0), (3, 0), (4, 0), (5, 0), (6, 0), (7, 0), (8, 0), (9, 0), (12, 0), (13, 0), (10, 1), (11, 0), (14, 0), (15, 0)] [] hs mixed (by kernel_rfl) (by kernel_rfl) (by kernel_rfl) (by kernel_rfl) (by kernel_rfl) ?_))
            | (refine JX_done (fun W hs => ?_))
            | (apply JD_done))
          refine ih2 (m + 1) _ _ ⟨hs, by omega, fun z hz => ?_⟩ (by omega) (by repeat' (first | exact trivial | exact rfl | apply And.intro))
          rw [List.take_add_one, hy] at hz
          rcases List.mem_append.1 hz with hz | hz
          · exact hj z hz
          · have hz : z = y := by simpa using hz
            rw [hz]; exact hlt2
        · have hins : rowsP xs t (k + 1) = l.take m ++ (k + 1) :: l.drop m := by rw [hstp]; exact insM_at (by rw [hxa]; exact hj) (by rw [hxa]; exact hex)
          have hex2 : m = l.length ∨ ∃ y : Nat, l[m]? = some y ∧ ¬ (atM xs y).2 < x.2 ∧ m < l.length ∧ inK .i64 ((y : Nat) : Int) ∧ (∃ p2 o2, ao = some ⟨p2, o2, none⟩) ∧ ((enL l).map (Value.int .i64))[m]? = some (.int .i64 (y : Nat)) := by
            rcases hex with h1 | ⟨y, hy, hn⟩
            · exact .inl h1
            · have hm1 := (List.getElem?_eq_some_iff.1 hy).1
              refine .inr ⟨y, hy, hn, hm1, ?_, (hs.row ao l.length co).some (by omega), by simp [enL, hy]⟩
              have := mem_tabG ((rowsP_perm xs t k).mem_iff.1 (hld ▸ List.mem_of_getElem? hy))
              have h1 : (xs.take k).length ≤ xs.length := by simp; omega
              unfold inK; simp only [IntKind.min, IntKind.max, IntKind.bits, IntKind.signed]; simp; omega
          obtain hml2 | ⟨y, hy, hn, hm1, hyk, ⟨p2, o2, rfl⟩, hcy⟩ := hex2
          · repeat' (first
              | ((apply aj_drawr 9; refine hold ?_))
              | ((apply JX_f; exact rfl; intro W X hs); (first
      | (apply as_move; exact OpR_move rfl is_rfl)
      | (apply as_binOp; exact OpR_ibin rfl rfl rfl is_rfl)
      | (apply as_pick; exact OpR_pick_f rfl (by first | assumption | rfl | exact decide_eq_true (by first | assumption | omega) | exact decide_eq_false (by first | assumption | omega)) rfl is_rfl)
      | (apply as_b_len; exact OpR_len rfl is_rfl)); first | (exact rfl; exact rfl) | exact rfl)
              | (apply J_seq)
              | (apply aj_exit; refine J_exit rfl ?_)
              | (apply aj_cond; refine J_cond_f rfl (by first | assumption | rfl | exact decide_eq_true (by first | assumption | omega) | exact decide_eq_false (by first | assumption | omega)) ?_)
              | (apply aj_draw; (refine J_drawX (id := 7) [0, 0, 2, 7, 15, 31, 31, 31, 223, 479, 1023, 2047, 31, 4127, 16383, 32767] [(0, 0), (1, 0), (2, 0), (3, 0), (4, 0), (5, 0), (6, 0), (7, 0), (8, 0), (9, 0), (12, 0), (13, 0), (10, 1), (11, 0), (14, 0), (15, 0)] [] hs mixed (by kernel_rfl) (by kernel_rfl) (by kernel_rfl) (by kernel_rfl) (by kernel_rfl) ?_))
              | (refine JX_done (fun W hs => ?_))
              | (refine JX_f_off rfl rfl (by first | assumption | rfl | exact decide_eq_true (by first | assumption | omega) | exact decide_eq_false (by first | assumption | omega)) rfl ?_)
              | (refine JX_c_off rfl rfl (by first | assumption | rfl | exact decide_eq_true (by first | assumption | omega) | exact decide_eq_false (by first | assumption | omega)) rfl ?_)
              | (apply JD_done))
            refine unhold ?_
            obtain ⟨a54, ha54⟩ : ∃ a54, (if ((co : Nat) : Int) = ((m : Nat) : Int) then ao else (ao).map (·.add (((m : Nat) : Int).toNat * 1))) = a54 := ⟨_, rfl⟩
            have e54 : (((l.length : Nat) : Int) - ((m : Nat) : Int)).toNat = l.length - m := by omega
            have e55 : (((co : Nat) : Int) - ((m : Nat) : Int)).toNat = co - m := by omega
            have hs0 : St w NoF _ ([_, _, _] ++ []) := hs
            have hs : St _ (Star [_, _, _]).foot _ [_, _, _] := (St.held (A := [_, _, _]) (L := []) hs0).st
            repeat' (first
              | ((apply ax_c; refine JX_c rfl (fun W X hN hs => by apply as_b_append; exact OpR_append0 (news := (enL (l.take m)).map (.int .i64)) hs rfl rfl (src_take (hs.row ao l.length co) hml) (fun _ => (hs.row ao l.length co).plain) rfl (by omega) (by unfold maxLen; omega)) (by rintro _ _ _ _ ⟨⟨_, _, _, _, hF⟩, hb⟩; exact hF.rlZ (fun k hk => by subst hk; omega)) rfl ?_; rintro W X _ _ hN hs9 ⟨⟨a3, c3, rfl, hs, hF⟩, hb⟩; refine JX.at hs ?_))
              | ((apply ax_c; refine JX_c rfl (fun W X hN hs => by apply as_b_append; exact OpR_and (OpR_append (xs := (enL (l.take m)).map (.int .i64)) hs rfl rfl (src_blk1 hs.blk rfl) plain_blk rfl (by omega) (by unfold maxLen; omega)) (St.newA (A := [_, _, _]) hs (.tail _ (.tail _ (.head _))))) (by rintro _ _ _ _ ⟨⟨_, _, _, _, hF, _⟩, hb⟩; exact hF.rlZ (fun k hk => by have := hb k (row_foot hk); omega)) rfl ?_; rintro W X _ _ hN hs9 ⟨⟨a4, c4, rfl, hs, hF, hnil⟩, hb⟩; refine JX.at hs ?_))
              | ((apply al_none (t := 55); refine JL_o (by apply as_b_append; exact OpR_append hs rfl rfl (src_drop (hs.row ao l.length co) hml ha54).1 (src_drop (hs.row ao l.length co) hml ha54).2 rfl (by omega) (by unfold maxLen; omega)) rfl rfl ?_; rintro _ _ ⟨a5, c5, rfl, hs, hF, hnil⟩))
              | (apply JL_nil)
              | ((first | (apply JL_pure) | (apply JX_fz; exact rfl; intro W hs)); (first
      | (apply as_slice; first | exact OpR_slice (kl := .i64) (kh := .i64) (km := .i64) (a' := ao) (m := ((co : Nat) : Int)) (h := ((m : Nat) : Int)) rfl (.inl ⟨rfl, rfl⟩) (.inr ⟨_, rfl, rfl⟩) (.inl ⟨rfl, rfl⟩) (by omega) (by omega) (by omega) (by omega) (by split; rfl; exact addr_add0 _) (by rw [Int.sub_zero, Int.sub_zero, Int.toNat_natCast, Int.toNat_natCast]; exact is_rfl) | exact OpR_slice (kl := .i64) (kh := .i64) (km := .i64) (a' := a54) (l := ((m : Nat) : Int)) (m := ((co : Nat) : Int)) (h := ((l.length : Nat) : Int)) rfl (.inr ⟨_, rfl, rfl⟩) (.inl ⟨rfl, rfl, rfl⟩) (.inl ⟨rfl, rfl⟩) (by omega) (by omega) (by omega) (by omega) ha54 (by rw [e54, e55]; exact is_rfl))
      | (apply as_move; exact OpR_move rfl is_rfl)
      | (apply as_assign; exact OpR_assign rfl is_rfl)
      | (apply as_add; exact OpR_addn rfl rfl (by omega) (by first | (simp only [Int.reduceAdd]; exact rfl) | exact rfl) is_rfl)); first | (exact rfl; exact rfl) | exact rfl)
              | (apply J_region)
              | (apply J_inBlock)
              | (apply ax_n; refine JX_n (t := 43) rfl (fun W L hs => by apply as_buildSlice; exact OpR_buildSlice hs rfl (by omega) rfl) rfl ?_)
              | (apply ax_k; (first | refine JX_k (t := 43) ?_ | refine JX_k2 (t := 43) rfl ?_); intro b43)
              | (apply ax_n; refine JX_n (t := 50) rfl (fun W L hs => by apply as_buildSlice; exact OpR_buildSlice hs rfl (by omega) rfl) rfl ?_)
              | (apply ax_k; (first | refine JX_k (t := 50) ?_ | refine JX_k2 (t := 50) rfl ?_); intro b50)
              | (apply aj_draw; (refine J_drawZ (id := 9) [0, 0, 0, 6, 15, 0, 32, 96, 255, 0, 0, 1536, 4095, 8191] [(1, 0), (2, 0), (3, 0), (5, 0), (6, 0), (9, 0), (10, 0), (11, 0), (0, 2), (7, 2), (0, 3), (4, 1), (7, 3), (8, 1)] [12, 13] hs mixed (by kernel_rfl) (by kernel_rfl) (by kernel_rfl) (by kernel_rfl) (by kernel_rfl) ?_; intro NZ hNZ))
              | (refine JX_done (fun W hs => ?_))
              | (apply JD_tail; case' hos => (simp only [List.map_cons, List.map_nil, List.getElem?_toArray, List.getElem?_cons_succ, List.getElem?_cons_zero]; repeat' (first | exact ms_nil | apply ms_cons))))
            have hs : St w NoF _ [_, _, _, _, _] := St.take (A := [_, _, _]) (L := []) hs0 (St.turned (A' := [_, _, _, _, _]) (M := []) hs)
            have hcell : (enL (l.take m)).map (Value.int .i64) ++ [.int .i64 ((k : Int) + 1)] ++ (enL (l.drop m)).map (Value.int .i64) = (enL (rowsP xs t (k + 1))).map (Value.int .i64) := by rw [hins]; simp [enL]
            have hlen : m + 1 + (l.length - m) = (rowsP xs t (k + 1)).length := by rw [hins]; simp; omega
            rw [hcell, hlen] at hs
            refine ih (k + 1, a5, c5) _ _ ⟨hs.sel [1, 4] (by decide), by dsimp only; omega⟩ (by dsimp only; omega) (by dsimp only; rw [← hlen]; repeat' (first | exact trivial | exact rfl | apply And.intro))
          · repeat' (first
              | ((apply aj_drawr 9; refine hold ?_))
              | ((apply ax_c; apply JX_cFg 16; exact rfl; exact rfl; exact (by first | assumption | rfl | exact decide_eq_true (by first | assumption | omega) | exact decide_eq_false (by first | assumption | omega)); (intro W X hN hs; exact OpR_callF en16 rfl (refAt_r _ (some ⟨p1, o1, none⟩) n c xs y (h.st hs) hyk)); (rintro _ _ _ _ ⟨rfl, hE⟩; first | exact hE | exact Fresh.ext hf); rintro W X _ _ hN hs ⟨rfl, hE⟩; have hs := hs.ext hE; (try simp only [List.cons_append, List.nil_append] at hs); refine JX.at hs ?_))
              | ((first | (apply JX_f; exact rfl; intro W X hs) | (apply JX_f_on; exact rfl; exact rfl; (first | assumption | exact rfl | exact decide_eq_true (by first | assumption | omega) | exact decide_eq_false (by first | assumption | omega)); intro W X hs)); (first
      | (apply as_load; first | exact OpR_load' hs rfl rfl is_rfl | exact OpR_load_agg' hs rfl is_rfl | exact OpR_loadRow (b := p2) (o := o2) (i := m) (n := l.length) (c := co) hs rfl hcy is_rfl)
      | (apply as_move; exact OpR_move rfl is_rfl)
      | (apply as_fieldAddr; exact OpR_fieldAddr0 rfl rfl is_rfl)
      | (apply as_binOp; exact OpR_ibin rfl rfl rfl is_rfl)
      | (apply as_pick; exact OpR_pick_t rfl (by first | assumption | rfl | exact decide_eq_true (by first | assumption | omega) | exact decide_eq_false (by first | assumption | omega)) rfl is_rfl)
      | (apply as_b_len; exact OpR_len rfl is_rfl)
      | (apply as_field; exact OpR_field rfl rfl rfl is_rfl)
      | (apply as_indexAddr; exact OpR_indexAddr rfl rfl (by omega) (by omega) is_rfl)); first | (exact rfl; exact rfl) | exact rfl)
              | (apply J_seq)
              | (apply aj_exit; refine J_exit rfl ?_)
              | (apply aj_cond; refine J_dec_f rfl (by first | assumption | omega) ?_)
              | (apply aj_draw; (refine J_drawX (id := 7) [0, 0, 2, 7, 15, 31, 31, 31, 223, 479, 1023, 2047, 31, 4127, 16383, 32767] [(0, 0), (1, 0), (2, 0), (3, 0), (4, 0), (5, 0), (6, 0), (7, 0), (8, 0), (9, 0), (12, 0), (13, 0), (10, 1), (11, 0), (14, 0), (15, 0)] [] hs mixed (by kernel_rfl) (by kernel_rfl) (by kernel_rfl) (by kernel_rfl) (by kernel_rfl) ?_))
              | (refine JX_done (fun W hs => ?_))
              | (apply JD_done))
            refine unhold ?_
            obtain ⟨a54, ha54⟩ : ∃ a54, (if ((co : Nat) : Int) = ((m : Nat) : Int) then (some ⟨p2, o2, none⟩) else (some (⟨p2, o2, none⟩ : Addr)).map (·.add (((m : Nat) : Int).toNat * 1))) = a54 := ⟨_, rfl⟩
            have e54 : (((l.length : Nat) : Int) - ((m : Nat) : Int)).toNat = l.length - m := by omega
            have e55 : (((co : Nat) : Int) - ((m : Nat) : Int)).toNat = co - m := by omega
            have hs0 : St w NoF _ ([_, _, _] ++ []) := hs
            have hs : St _ (Star [_, _, _]).foot _ [_, _, _] := (St.held (A := [_, _, _]) (L := []) hs0).st
            repeat' (first
              | ((apply ax_c; refine JX_c rfl (fun W X hN hs => by apply as_b_append; exact OpR_append0 (news := (enL (l.take m)).map (.int .i64)) hs rfl rfl (src_take (hs.row (some ⟨p2, o2, none⟩) l.length co) hml) (fun _ => (hs.row (some ⟨p2, o2, none⟩) l.length co).plain) rfl (by omega) (by unfold maxLen; omega)) (by rintro _ _ _ _ ⟨⟨_, _, _, _, hF⟩, hb⟩; exact hF.rlZ (fun k hk => by subst hk; omega)) rfl ?_; rintro W X _ _ hN hs9 ⟨⟨a3, c3, rfl, hs, hF⟩, hb⟩; refine JX.at hs ?_))
              | ((apply ax_c; refine JX_c rfl (fun W X hN hs => by apply as_b_append; exact OpR_and (OpR_append (xs := (enL (l.take m)).map (.int .i64)) hs rfl rfl (src_blk1 hs.blk rfl) plain_blk rfl (by omega) (by unfold maxLen; omega)) (St.newA (A := [_, _, _]) hs (.tail _ (.tail _ (.head _))))) (by rintro _ _ _ _ ⟨⟨_, _, _, _, hF, _⟩, hb⟩; exact hF.rlZ (fun k hk => by have := hb k (row_foot hk); omega)) rfl ?_; rintro W X _ _ hN hs9 ⟨⟨a4, c4, rfl, hs, hF, hnil⟩, hb⟩; refine JX.at hs ?_))
              | ((apply al_none (t := 55); refine JL_o (by apply as_b_append; exact OpR_append hs rfl rfl (src_drop (hs.row (some ⟨p2, o2, none⟩) l.length co) hml ha54).1 (src_drop (hs.row (some ⟨p2, o2, none⟩) l.length co) hml ha54).2 rfl (by omega) (by unfold maxLen; omega)) rfl rfl ?_; rintro _ _ ⟨a5, c5, rfl, hs, hF, hnil⟩))
              | (apply JL_nil)
              | ((first | (apply JL_pure) | (apply JX_fz; exact rfl; intro W hs)); (first
      | (apply as_slice; first | exact OpR_slice (kl := .i64) (kh := .i64) (km := .i64) (a' := (some ⟨p2, o2, none⟩)) (m := ((co : Nat) : Int)) (h := ((m : Nat) : Int)) rfl (.inl ⟨rfl, rfl⟩) (.inr ⟨_, rfl, rfl⟩) (.inl ⟨rfl, rfl⟩) (by omega) (by omega) (by omega) (by omega) (by split; rfl; exact addr_add0 _) (by rw [Int.sub_zero, Int.sub_zero, Int.toNat_natCast, Int.toNat_natCast]; exact is_rfl) | exact OpR_slice (kl := .i64) (kh := .i64) (km := .i64) (a' := a54) (l := ((m : Nat) : Int)) (m := ((co : Nat) : Int)) (h := ((l.length : Nat) : Int)) rfl (.inr ⟨_, rfl, rfl⟩) (.inl ⟨rfl, rfl, rfl⟩) (.inl ⟨rfl, rfl⟩) (by omega) (by omega) (by omega) (by omega) ha54 (by rw [e54, e55]; exact is_rfl))
      | (apply as_move; exact OpR_move rfl is_rfl)
      | (apply as_assign; exact OpR_assign rfl is_rfl)
      | (apply as_add; exact OpR_addn rfl rfl (by omega) (by first | (simp only [Int.reduceAdd]; exact rfl) | exact rfl) is_rfl)); first | (exact rfl; exact rfl) | exact rfl)
              | (apply J_region)
              | (apply J_inBlock)
              | (apply ax_n; refine JX_n (t := 43) rfl (fun W L hs => by apply as_buildSlice; exact OpR_buildSlice hs rfl (by omega) rfl) rfl ?_)
              | (apply ax_k; (first | refine JX_k (t := 43) ?_ | refine JX_k2 (t := 43) rfl ?_); intro b43)
              | (apply ax_n; refine JX_n (t := 50) rfl (fun W L hs => by apply as_buildSlice; exact OpR_buildSlice hs rfl (by omega) rfl) rfl ?_)
              | (apply ax_k; (first | refine JX_k (t := 50) ?_ | refine JX_k2 (t := 50) rfl ?_); intro b50)
              | (apply aj_draw; (refine J_drawZ (id := 9) [0, 0, 0, 6, 15, 0, 32, 96, 255, 0, 0, 1536, 4095, 8191] [(1, 0), (2, 0), (3, 0), (5, 0), (6, 0), (9, 0), (10, 0), (11, 0), (0, 2), (7, 2), (0, 3), (4, 1), (7, 3), (8, 1)] [12, 13] hs mixed (by kernel_rfl) (by kernel_rfl) (by kernel_rfl) (by kernel_rfl) (by kernel_rfl) ?_; intro NZ hNZ))
              | (refine JX_done (fun W hs => ?_))
              | (apply JD_tail; case' hos => (simp only [List.map_cons, List.map_nil, List.getElem?_toArray, List.getElem?_cons_succ, List.getElem?_cons_zero]; repeat' (first | exact ms_nil | apply ms_cons))))
            have hs : St w NoF _ [_, _, _, _, _] := St.take (A := [_, _, _]) (L := []) hs0 (St.turned (A' := [_, _, _, _, _]) (M := []) hs)
            have hcell : (enL (l.take m)).map (Value.int .i64) ++ [.int .i64 ((k : Int) + 1)] ++ (enL (l.drop m)).map (Value.int .i64) = (enL (rowsP xs t (k + 1))).map (Value.int .i64) := by rw [hins]; simp [enL]
            have hlen : m + 1 + (l.length - m) = (rowsP xs t (k + 1)).length := by rw [hins]; simp; omega
            rw [hcell, hlen] at hs
            refine ih (k + 1, a5, c5) _ _ ⟨hs.sel [1, 4] (by decide), by dsimp only; omega⟩ (by dsimp only; omega) (by dsimp only; rw [← hlen]; repeat' (first | exact trivial | exact rfl | apply And.intro))
      · rw [if_neg hq] at hstp
        repeat' (first
          | (apply JL_nil)
          | ((first | (apply JL_pure) | (apply JL_pure_on; exact rfl; (first | assumption | exact rfl | exact decide_eq_true (by first | assumption | omega) | exact decide_eq_false (by first | assumption | omega)))); (first
      | (apply as_load; first | exact OpR_load' hs rfl rfl is_rfl | exact OpR_load_agg' hs rfl is_rfl | exact OpR_load_el (h.st hs) hx rfl rfl is_rfl)
      | (apply as_move; exact OpR_move rfl is_rfl)
      | (apply as_assign; exact OpR_assign rfl is_rfl)
      | (apply as_fieldAddr; exact OpR_fieldAddr0 rfl rfl is_rfl)
      | (apply as_add; exact OpR_addn rfl rfl (by omega) (by first | (simp only [Int.reduceAdd]; exact rfl) | exact rfl) is_rfl)
      | (apply as_binOp; exact OpR_ibin rfl rfl rfl is_rfl)
      | (apply as_pick; exact OpR_pick_f rfl (by first | assumption | rfl | exact decide_eq_true (by first | assumption | omega) | exact decide_eq_false (by first | assumption | omega)) rfl is_rfl)
      | (apply as_indexAddr; exact OpR_indexAddr rfl rfl (by omega) (by omega) is_rfl)); first | (exact rfl; exact rfl) | exact rfl)
          | (apply J_seq)
          | (apply J_region)
          | (apply J_block)
          | (apply aj_exit; refine J_exit rfl ?_)
          | (apply J_skip)
          | (apply al_none (t := 7); refine JL_o (by apply as_alloc; exact OpR_alloc' hs) rfl rfl ?_; rintro _ _ ⟨b7, rfl, hb7, hs, hE⟩)
          | (apply al_unit; refine JL_u (by apply as_store; exact OpR_store' hs rfl rfl rfl) rfl ?_; rintro _ _ ⟨hs, hF⟩)
          | (apply aj_cond; refine J_dec_t rfl (by first | assumption | omega) ?_))
        refine ih (k + 1, ao, co) _ _ ⟨by rw [hstp]; exact hs.sel [1, 2] (by decide), by dsimp only; omega⟩ (by dsimp only; omega) (by repeat' (first | exact trivial | exact rfl | (rw [hstp]; exact rfl) | apply And.intro))
    · have hkn : k = n := by omega
      subst hkn
      have hrm : rowsM xs t = rowsP xs t k := by unfold rowsM; rw [if_neg ht, hl]
      rw [hrm]
      have hs : St w NoF w' [_, _] := hs1
      repeat' (first
        | (apply JL_nil)
        | ((apply JL_pure); (first
      | (apply as_move; exact OpR_move rfl is_rfl)
      | (apply as_assign; exact OpR_assign rfl is_rfl)
      | (apply as_binOp; exact OpR_ibin rfl rfl rfl is_rfl)); first | (exact rfl; exact rfl) | exact rfl)
        | (apply J_seq)
        | (apply J_region)
        | (apply aj_exit; refine J_exit rfl ?_)
        | (apply aj_cond; refine J_dec_f rfl (by first | assumption | omega) ?_))
      refine J_leave Tryd.func17 rfl (.tmp rfl .nil) ⟨_, _, rfl, hs.out (.cons_cons _ (List.nil_sublist _))⟩
end Go.Eng
/- Record: wakes. -/
namespace Go.Eng
open Go.Proofs
set_option linter.unusedSimpArgs false
set_option linter.unusedVariables false
theorem sl_blk {w : World} {b e : Nat} {cs : Array Value} (vs : List Int) (h : w.heap[b]? = some (.cells cs e (0, 0))) (hc : cs = (vs.map (Value.int .i64)).toArray) (hk : ∀ v ∈ vs, inK .i64 v) (hm : vs.length ≤ maxLen) : Sl (tInt .i64) All w (some ⟨b, 0, none⟩) vs.length vs.length vs := by
  subst hc
  have hr : RowV w (some ⟨b, 0, none⟩) vs.length vs.length e 1 (vs.map (Value.int .i64)) := ⟨by simp, Nat.le_refl _, hm, .inr ⟨b, 0, _, rfl, h, by simp, by simp [List.take_of_length_le]⟩⟩
  exact (RowV.sl hr hk).weak (fun _ _ => trivial)
theorem inK_enL {l : List Nat} (h : ∀ i ∈ l, i ≤ 1048578) : ∀ v ∈ enL l, inK .i64 v := fun v hv => by
  obtain ⟨i, hi, rfl⟩ := List.mem_map.1 hv
  have := h i hi
  unfold inK; simp only [IntKind.min, IntKind.max, IntKind.bits, IntKind.signed]; simp; omega
theorem mem_rowsF {xs : List Sp} {t : Int} {i : Nat} (h : i ∈ rowsF xs t) : (1 ≤ i ∧ i ≤ 1048578) ∧ i ≤ xs.length ∧ (atM xs i).1 = t ∧ 0 < t := by
  unfold rowsF at h
  by_cases hr : rightB xs = true
  · rw [if_pos hr] at h
    have hle : xs.length ≤ 1048578 := ((right_iff xs).1 hr).1
    rcases Int.lt_or_le 0 t with ht | ht
    · obtain ⟨h1, h2, _⟩ := mem_tabG ((rowsM_perm (by omega)).mem_iff.1 h)
      exact ⟨by omega, h1.2, h2, ht⟩
    · rw [← rows_eq hr (ys := []) (by rw [tabG_0 hr ht]) List.Pairwise.nil] at h; cases h
  · rw [if_neg hr] at h; cases h
theorem slRows {w : World} {a : Option Addr} {n c : Nat} {xs : List Sp} {t : Int} (h : RowV w a n c 3 1 ((enL (rowsF xs t)).map (.int .i64))) : Sl (tInt .i64) All w a n c (enL (rowsF xs t)) :=
  (RowV.sl h (inK_enL fun i hi => (mem_rowsF hi).1.2)).weak (fun _ _ => trivial)
abbrev swapped : List Sp := [(0, 0), (0, 0), (0, 0), (1, 0), (0, 0), (2, 0)]
theorem okSmall : ∀ s ∈ smallM, okS s := by simp [smallM, okS, inK]
theorem okSwapped : ∀ s ∈ swapped, okS s := by simp [swapped, okS, inK]
attribute [local irreducible] Hold J JL JD JX JXat OpR OpG Ret RetV Is Blk Row MapC
set_option maxRecDepth 100000
set_option maxHeartbeats 1000000
set_option linter.unusedSimpArgs false
set_option linter.unusedVariables false
theorem wakes_r (w : World) (hG : Gz w) : Ret Tryd.prog 8 #[] w fun v w' => v = .bool true ∧ Ext w w' := by
  refine Ret_of (l := []) Tryd.func8 rfl Tryd.ntmps8 (by simp) ?_
  have hs := St.init w
  have k1 : atF smallM 4 = (1, 1) := by decide
  have k2 : (if rightB smallM then whoM smallM (2, 0) else 0) = 6 := by decide
  have k3 : (doesM smallM (swE smallM 3 1) (swY smallM 3 1)).1 = swapped := by decide
  have k3b : (doesM smallM (swE smallM 3 1) (swY smallM 3 1)).2 = 0 := by decide
  have k4 : (doesM smallM (putE smallM 5 (2, 0)) (putY smallM 5 (2, 0))).1 = [] := by decide
  have k4b : (doesM smallM (putE smallM 5 (2, 0)) (putY smallM 5 (2, 0))).2 = 5 := by decide
  have k5 : decide (enL (rowsF swapped 1) = [4]) = true := by decide
  have k6 : decide (enL (rowsF smallM 1) = [3, 4]) = true := by decide
  repeat' (first
    | ((apply al_call 30; refine JL_o (by exact OpR_callF en30 rfl (small_r _)) rfl rfl ?_; rintro _ _ ⟨as_, cs_, rfl, hf⟩; have hs := hs.fresh hf; (try simp only [List.cons_append, List.nil_append] at hs)))
    | ((apply al_callg 30; refine JL_o_on rfl (by first | assumption | rfl | exact decide_eq_true (by first | assumption | omega) | exact decide_eq_false (by first | assumption | omega)) (by exact OpR_callF en30 rfl (small_r _)) rfl rfl ?_; rintro _ _ ⟨as_, cs_, rfl, hf⟩; have hs := hs.fresh hf; (try simp only [List.cons_append, List.nil_append] at hs)))
    | ((apply al_call 14; refine JL_o (by exact OpR_callF en14 rfl (At_r _ (hG.st hs) as_ 6 cs_ smallM 4 (RowV.sp (hs.row as_ 6 cs_) okSmall) (by simp [inK]))) rfl rfl ?_; rintro _ _ ⟨rfl, hE⟩; rw [k1]; have hs := hs.ext hE; (try simp only [List.cons_append, List.nil_append] at hs)))
    | ((apply al_call 19; refine JL_o (by exact OpR_callF en19 rfl (Who_r _ (hG.st hs) as_ 6 cs_ smallM 2 0 (RowV.sp (hs.row as_ 6 cs_) okSmall))) rfl rfl ?_; rintro _ _ ⟨rfl, hE⟩; rw [k2]; have hs := hs.ext hE; (try simp only [List.cons_append, List.nil_append] at hs)))
    | ((apply al_call 25; refine JL_o (by exact OpR_callF en25 rfl (Swap_r _ (hG.st hs) as_ 6 cs_ smallM 3 1 (by simp [inK]) (by simp [inK]) (RowV.sp (hs.row as_ 6 cs_) okSmall) (by omega))) rfl rfl ?_; rintro _ _ ⟨az, cz, rfl, hf⟩; rw [k3] at hf; rw [k3, k3b]; have hs := hs.fresh hf; (try simp only [List.cons_append, List.nil_append] at hs)))
    | ((apply al_call 21; refine JL_o (by exact OpR_callF en21 rfl (Put_r _ (hG.st hs) as_ 6 cs_ smallM 5 2 0 (by simp [inK]) (RowV.sp (hs.row as_ 6 cs_) okSmall) (by omega))) rfl rfl ?_; rintro _ _ ⟨ap, cp, rfl, hf⟩; rw [k4] at hf; rw [k4, k4b]; have hs := hs.fresh hf; (try simp only [List.cons_append, List.nil_append] at hs)))
    | ((apply al_callg 15; refine JL_o_on rfl (by first | assumption | rfl | exact decide_eq_true (by first | assumption | omega) | exact decide_eq_false (by first | assumption | omega)) (by exact OpR_callF en15 rfl (Rows_r _ (hG.st hs) az swapped.length cz swapped 1 (RowV.sp (hs.row az swapped.length cz) okSwapped))) rfl rfl ?_; rintro _ _ ⟨ar, cr, rfl, hf⟩; have hs := hs.fresh hf; (try simp only [List.cons_append, List.nil_append] at hs)))
    | ((apply al_callg 15; refine JL_o_on rfl (by first | assumption | rfl | exact decide_eq_true (by first | assumption | omega) | exact decide_eq_false (by first | assumption | omega)) (by exact OpR_callF en15 rfl (Rows_r _ (hG.st hs) as_ 6 cs_ smallM 1 (RowV.sp (hs.row as_ 6 cs_) okSmall))) rfl rfl ?_; rintro _ _ ⟨aq, cq, rfl, hf⟩; have hs := hs.fresh hf; (try simp only [List.cons_append, List.nil_append] at hs)))
    | ((apply al_callg 18; refine JL_o_on rfl (by first | assumption | rfl | exact decide_eq_true (by first | assumption | omega) | exact decide_eq_false (by first | assumption | omega)) (by exact OpR_callF en18 rfl (equal18_r _ ar (some ⟨b55, 0, none⟩) _ cr 1 1 (enL (rowsF swapped 1)) [4] (slRows (hs.row ar _ cr)) (sl_blk [4] hs.blk rfl (by simp [inK]) (by unfold maxLen; simp)))) rfl rfl ?_; rintro _ _ ⟨rfl, hE⟩; rw [k5]; have hs := hs.ext hE; (try simp only [List.cons_append, List.nil_append] at hs)))
    | ((apply al_callg 18; refine JL_o_on rfl (by first | assumption | rfl | exact decide_eq_true (by first | assumption | omega) | exact decide_eq_false (by first | assumption | omega)) (by exact OpR_callF en18 rfl (equal18_r _ aq (some ⟨b61, 0, none⟩) _ cq 2 2 (enL (rowsF smallM 1)) [3, 4] (slRows (hs.row aq _ cq)) (sl_blk [3, 4] hs.blk rfl (by simp [inK]) (by unfold maxLen; simp)))) rfl rfl ?_; rintro _ _ ⟨rfl, hE⟩; rw [k6]; have hs := hs.ext hE; (try simp only [List.cons_append, List.nil_append] at hs)))
    | (apply JL_nil)
    | ((first | (apply JL_pure) | (apply JL_pure_on; exact rfl; (first | assumption | exact rfl | exact decide_eq_true (by first | assumption | omega) | exact decide_eq_false (by first | assumption | omega)))); (first
      | (apply as_move; exact OpR_move rfl is_rfl)
      | (apply as_assign; exact OpR_assign rfl is_rfl)
      | (apply as_load; exact OpR_load_agg' hs rfl is_rfl)
      | (apply as_binOp; first | exact OpR_ibin rfl rfl rfl is_rfl | exact OpR_eqT rfl rfl is_rfl)
      | (apply as_pick; exact OpR_pick_t rfl (by first | assumption | rfl | exact decide_eq_true (by first | assumption | omega) | exact decide_eq_false (by first | assumption | omega)) rfl is_rfl)
      | (apply as_extract; exact OpR_extract rfl rfl is_rfl)
      | (apply as_build; exact OpR_build rfl (by (simp only [bld, placesOf, splice, Value.cells, List.take_succ_cons, List.take_zero, List.drop_succ_cons, List.drop_zero, List.cons_append, List.nil_append, List.length_cons, List.length_nil, List.getElem?_cons_zero, List.getElem?_cons_succ, Option.map_some, List.append_nil, Nat.reduceAdd, Nat.reduceMul, Nat.zero_add, Nat.reduceLeDiff, and_self, if_true, List.toList_toArray, Nat.le_refl, Nat.zero_mul, Nat.one_mul]; first | done | rfl)) is_rfl)); first | (exact rfl; exact rfl) | exact rfl)
    | (apply J_seq)
    | (apply J_region)
    | (apply al_none (t := 1); refine JL_o (by apply as_alloc; exact OpR_alloc' hs) rfl rfl ?_; rintro _ _ ⟨b1, rfl, hb1, hs, hE⟩)
    | (apply al_none (t := 5); refine JL_o (by apply as_alloc; exact OpR_alloc' hs) rfl rfl ?_; rintro _ _ ⟨b5, rfl, hb5, hs, hE⟩)
    | (apply al_none (t := 7); refine JL_o (by apply as_alloc; exact OpR_alloc' hs) rfl rfl ?_; rintro _ _ ⟨b7, rfl, hb7, hs, hE⟩)
    | (refine JL_o_on (t := 55) rfl (by first | assumption | rfl | exact decide_eq_true (by first | assumption | omega) | exact decide_eq_false (by first | assumption | omega)) (by apply as_buildSlice; exact OpR_buildSlice hs rfl (by omega) rfl) rfl rfl ?_; rintro _ _ ⟨b55, rfl, hb55, hs, hE⟩)
    | (refine JL_o_on (t := 61) rfl (by first | assumption | rfl | exact decide_eq_true (by first | assumption | omega) | exact decide_eq_false (by first | assumption | omega)) (by apply as_buildSlice; exact OpR_buildSlice hs rfl (by omega) rfl) rfl rfl ?_; rintro _ _ ⟨b61, rfl, hb61, hs, hE⟩)
    | (apply al_unit; refine JL_u (by apply as_store; exact OpR_store' hs rfl rfl rfl) rfl ?_; rintro _ _ ⟨hs, hF⟩))
  refine J_leave Tryd.func8 rfl (.tmp rfl .nil) ⟨rfl, hs.frm.ext⟩
end Go.Eng
