/- Column: does, Swap, Set. -/
import Derived.Test.YtkeejkengoolpaaC2
namespace Go.Eng
open Go.Proofs
attribute [local irreducible] J JL JD OpR OpG Ret RetV Is Blk Row
set_option maxRecDepth 100000
set_option maxHeartbeats 400000
set_option linter.unusedSimpArgs false
set_option linter.unusedVariables false
def U64 (ws : List Int) : Prop := ∀ x ∈ ws, inK .u64 x
/-- A column's words. -/
def WR (w : World) (a : Option Addr) (n c : Nat) (ws : List Int) : Prop := n ≤ c ∧ c ≤ maxLen ∧ (a = none → c = 0) ∧ SlR (tInt .u64) All w a n ws
theorem WR.len {w : World} {a : Option Addr} {n c : Nat} {ws : List Int} (h : WR w a n c ws) : ws.length = n := h.2.2.2.len
theorem WR.ext {w w' : World} {a : Option Addr} {n c : Nat} {ws : List Int} (h : WR w a n c ws) (e : Ext w w') : WR w' a n c ws := ⟨h.1, h.2.1, h.2.2.1, h.2.2.2.ext e⟩
theorem WR.st {w0 w : World} {L : List HP} {a : Option Addr} {n c : Nat} {ws : List Int} (h : WR w0 a n c ws) (e : St w0 NoF w L) : WR w a n c ws := ⟨h.1, h.2.1, h.2.2.1, h.2.2.2.st e⟩
theorem WR.u64 {w : World} {a : Option Addr} {n c : Nat} {ws : List Int} (h : WR w a n c ws) : U64 ws := by
  intro x hx
  obtain ⟨i, hi⟩ := List.mem_iff_getElem?.1 hx
  obtain ⟨es, ⟨_, h2⟩, _⟩ := h.2.2.2.el i x hi
  exact h2
theorem RowV.wr {w : World} {a : Option Addr} {n c e : Nat} {ws : List Int} (h : RowV w a n c e 1 (u64s ws)) (hu : U64 ws) : WR w a n c ws :=
  ⟨h.cap.1, h.cap.2.1, h.cap.2.2, (h.slr hu).all⟩
/-- A literal of slices. -/
theorem slr_blk1 {α : Type} {d : Ty α} {w : World} {b n c e : Nat} {fz : Nat × Nat} {a : Option Addr} {xs : List α} (h : w.heap[b]? = some (.cells #[.slice a n c] e fz)) (h1 : n ≤ c) (h2 : c ≤ maxLen) (h3 : a = none → c = 0) (s : SlR d All w a n xs) :
    SlR (tSl d) All w (some ⟨b, 0, none⟩) 1 [xs] := by
  refine ⟨rfl, (fun h => nomatch h), fun _ _ h => (by cases h; rfl), fun _ _ _ _ => trivial, fun i x hx => ?_⟩
  rcases i with _ | i
  · cases hx
    refine ⟨[.slice a n c], ⟨a, n, c, rfl, h1, h2, h3, s⟩, fun b' o hb j u hu => ?_⟩
    cases hb; exact cell_blk h (by simpa [tSl] using hu)
  · simp at hx
theorem slr_blk2 {α : Type} {d : Ty α} {w : World} {b n c n' c' e : Nat} {fz : Nat × Nat} {a a' : Option Addr} {xs xs' : List α} (h : w.heap[b]? = some (.cells #[.slice a n c, .slice a' n' c'] e fz)) (h1 : n ≤ c) (h2 : c ≤ maxLen) (h3 : a = none → c = 0) (s : SlR d All w a n xs) (h1' : n' ≤ c') (h2' : c' ≤ maxLen) (h3' : a' = none → c' = 0) (s' : SlR d All w a' n' xs') :
    SlR (tSl d) All w (some ⟨b, 0, none⟩) 2 [xs, xs'] := by
  refine ⟨rfl, (fun h => nomatch h), fun _ _ h => (by cases h; rfl), fun _ _ _ _ => trivial, fun i x hx => ?_⟩
  rcases i with _ | _ | i
  · cases hx
    refine ⟨[.slice a n c], ⟨a, n, c, rfl, h1, h2, h3, s⟩, fun b' o hb j u hu => ?_⟩
    cases hb
    rcases j with _ | j
    · exact cell_blk h (by simpa [tSl] using hu)
    · simp at hu
  · cases hx
    refine ⟨[.slice a' n' c'], ⟨a', n', c', rfl, h1', h2', h3', s'⟩, fun b' o hb j u hu => ?_⟩
    cases hb
    rcases j with _ | j
    · exact cell_blk h (by simpa [tSl] using hu)
    · simp at hu
  · simp at hx
/-- A column, and a number, as a result. -/
def ColRes (v : Value) (w w' : World) (x : Int × Int × List Int × Int) : Prop :=
  ∃ a c, v = .tuple #[.agg #[.int .i64 x.1, .int .i64 x.2.1, .slice a x.2.2.1.length c], .int .i64 x.2.2.2] ∧ Fresh w w' [Row a x.2.2.1.length c 41 1 (u64s x.2.2.1)]
theorem ColRes.zero {w w' : World} (no : Int) (h : Ext w w') : ColRes (.tuple #[.agg #[.int .i64 0, .int .i64 0, .slice none 0 0], .int .i64 no]) w w' (0, 0, [], no) :=
  ⟨none, 0, rfl, by have := ((St.init w).ext h).nilRow 41 1; exact this.out (List.Sublist.refl _)⟩
theorem colB_W {W R : Int} {n : Nat} (h : colB W R n = true) : (0 ≤ W ∧ W ≤ 4) ∧ (0 ≤ R ∧ R ≤ 1048578) ∧ (n : Int) = W * R ∧ n ≤ 4194312 := by
  rw [colB_iff] at h
  have hb := mul_bd (a := W) (A := 4) (b := R) (B := 1048578) (by omega) (by omega) (by omega) (by omega)
  omega
def doesM (W R r : Int) (n : Nat) (e R' : Int) (ws' : List Int) : Int × Int × List Int × Int :=
  if colB W R n = true then if 0 ≤ r ∧ r < R then if e = 0 then (W, R', ws', 0) else (0, 0, [], e) else (0, 0, [], 2) else (0, 0, [], 180)
/-- What a function owes that does is handed. -/
def DoOk (fv : Value) (w0 : World) (W R : Int) (ws : List Int) (e R' : Int) (ws' : List Int) : Prop :=
  ∀ w b a c, Ext w0 w → (∀ k, (Star [Blk b (.cells #[.int .i64 W, .int .i64 R, .slice a ws.length c] 24 (0, 0)), Row a ws.length c 41 1 (u64s ws)]).foot k → w0.heap.size ≤ k) → Held w [Blk b (.cells #[.int .i64 W, .int .i64 R, .slice a ws.length c] 24 (0, 0)), Row a ws.length c 41 1 (u64s ws)] →
    RetV Try.prog fv #[ptr b] w (fun v w' => v = .int .i64 e ∧ ∃ a' c', Turn w [Blk b (.cells #[.int .i64 W, .int .i64 R, .slice a ws.length c] 24 (0, 0)), Row a ws.length c 41 1 (u64s ws)] w'
      [Blk b (.cells #[.int .i64 W, .int .i64 R', .slice a' ws'.length c'] 24 (0, 0)), Row a' ws'.length c' 41 1 (u64s ws')])
theorem does_r (w : World) (W R r : Int) (a : Option Addr) (n c : Nat) (ws : List Int) (fv : Value) (e R' : Int) (ws' : List Int) (h : WR w a n c ws) (hdo : colB W R n = true → 0 ≤ r ∧ r < R → DoOk fv w W R ws e R' ws') :
    Ret Try.prog 36 #[.agg #[.int .i64 W, .int .i64 R, .slice a n c], .int .i64 r, fv] w fun v w' => ColRes v w w' (doesM W R r n e R' ws') := by
  refine Ret_of (l := [_, _, _]) Try.func36 rfl Try.ntmps36 (by simp) ?_
  have hs := St.init w
  unfold doesM
  by_cases hB : colB W R n = true
  · rw [if_pos hB]
    by_cases hr : 0 ≤ r ∧ r < R
    · rw [if_pos hr]
      have hw := colB_W hB
      have hl := h.len
      have hfl : [ws].flatten = ws := by simp
      repeat' (first
        | ((apply al_none; refine JL_o (OpR_callF en28 rfl (check_r _ _ _ _ _ _)) rfl rfl ?_; rintro _ _ ⟨hE, rfl⟩; have hs := hs.ext hE; rw [if_pos hB]))
        | ((apply al_none; refine JL_o (by apply as_buildSlice; exact OpR_buildSlice hs rfl (by omega) rfl) rfl rfl ?_; rintro _ _ ⟨_, rfl, hb, hs, hE⟩))
        | ((apply al_none; refine JL_o (OpR_callF en41 rfl (joined_r _ _ _ _ [ws] All (slr_blk1 (hs.blk) h.1 h.2.1 h.2.2.1 (h.st hs).2.2.2) (by omega) (by rw [hfl]; omega))) rfl rfl ?_; rintro _ _ ⟨a2, c2, rfl, hf⟩; rw [hfl] at hf; have hs := (hs.fresh hf).sub (M := [_, _, _]) (.cons_cons _ (.cons _ (.cons_cons _ (.cons_cons _ .slnil)))); rw [hfl]))
        | ((apply al_none; have hs : St _ _ _ [_, _, _] := hs.perm (List.perm_append_comm (l₁ := [_, _]) (l₂ := [_])); refine JL_o (OpR_callV rfl rfl (hdo hB hr _ _ _ _ hs.frm.ext (St.foot0 (A := [_, _]) (L := [_]) hs) (St.held (A := [_, _]) (L := [_]) hs))) rfl rfl ?_; rintro _ _ ⟨rfl, a3, c3, ht⟩; have hs : St _ _ _ [_, _, _] := St.take (A := [_, _]) (L := [_]) hs ht; clear ht))
        | (apply JL_nil)
        | ((first | (apply JL_pure) | (apply JL_pure_on; exact rfl; (first | assumption | exact rfl | exact decide_eq_true (by first | assumption | omega) | exact decide_eq_false (by first | assumption | omega)))); (first
      | (apply as_move; first | exact OpR_move rfl is_rfl)
      | (apply as_assign; first | exact OpR_assign rfl is_rfl)
      | (apply as_fieldAddr; first | exact OpR_fieldAddr0 rfl rfl is_rfl | exact OpR_fieldAddr rfl rfl is_rfl)
      | (apply as_load; first | exact OpR_load' hs rfl rfl is_rfl | exact OpR_load_agg' hs rfl is_rfl)
      | (apply as_binOp; first | exact OpR_ibin rfl rfl rfl is_rfl | exact OpR_beq rfl rfl is_rfl | exact OpR_bne rfl rfl is_rfl | exact OpR_eqNil rfl rfl is_rfl | exact OpR_neNil rfl rfl is_rfl)
      | (apply as_pick; first | exact OpR_pick_t rfl (by first | assumption | rfl | exact decide_eq_true (by first | assumption | omega) | exact decide_eq_false (by first | assumption | omega)) rfl is_rfl | exact OpR_pick_f rfl (by first | assumption | rfl | exact decide_eq_true (by first | assumption | omega) | exact decide_eq_false (by first | assumption | omega)) rfl is_rfl)
      | (apply as_build; first | exact OpR_build rfl (by (simp only [bld, placesOf, splice, Value.cells, List.take_succ_cons, List.take_zero, List.drop_succ_cons, List.drop_zero, List.cons_append, List.nil_append, List.length_cons, List.length_nil, List.getElem?_cons_zero, List.getElem?_cons_succ, Option.map_some, List.append_nil, Nat.reduceAdd, Nat.reduceMul, Nat.zero_add, Nat.reduceLeDiff, and_self, if_true, List.toList_toArray, Nat.le_refl, Nat.zero_mul, Nat.one_mul]; first | done | rfl)) is_rfl | exact OpR_build_arr rfl (by (simp only [bld, placesOf, splice, Value.cells, List.take_succ_cons, List.take_zero, List.drop_succ_cons, List.drop_zero, List.cons_append, List.nil_append, List.length_cons, List.length_nil, List.getElem?_cons_zero, List.getElem?_cons_succ, Option.map_some, List.append_nil, Nat.reduceAdd, Nat.reduceMul, Nat.zero_add, Nat.reduceLeDiff, and_self, if_true, List.toList_toArray, Nat.le_refl, Nat.zero_mul, Nat.one_mul]; first | done | rfl)) is_rfl)); first | (exact rfl; exact rfl) | exact rfl)
        | (apply J_seq)
        | (apply J_region)
        | (apply J_skip)
        | (apply al_none; (first | (refine JL_o (by apply as_box; exact OpR_box' hs rfl) rfl rfl ?_) | (refine JL_o (by apply as_alloc; exact OpR_alloc' hs) rfl rfl ?_)); rintro _ _ ⟨_, rfl, hb, hs, hE⟩)
        | (apply al_unit; refine JL_u (by apply as_store; exact OpR_store' hs rfl rfl rfl) rfl ?_; rintro _ _ ⟨hs, hF⟩)
        | (apply al_guard; first
    | (refine JL_no rfl (by first | assumption | rfl | exact decide_eq_true (by first | assumption | omega) | exact decide_eq_false (by first | assumption | omega)) rfl ?_)
    | (fail_if_success (apply JL_o_on rfl (by first | assumption | rfl | exact decide_eq_true (by first | assumption | omega) | exact decide_eq_false (by first | assumption | omega)))); first | (refine JL_split_dec rfl (fun _ => ?_) (fun _ => ?_)) | (refine JL_split rfl (fun _ => ?_) (fun _ => ?_)))
        | (apply aj_cond; first | refine J_dec_t rfl (by first | assumption | omega) ?_ | refine J_dec_f rfl (by first | assumption | omega) ?_ | refine J_cond_t rfl (by first | assumption | rfl | exact decide_eq_true (by first | assumption | omega) | exact decide_eq_false (by first | assumption | omega)) ?_ | refine J_cond_f rfl (by first | assumption | rfl | exact decide_eq_true (by first | assumption | omega) | exact decide_eq_false (by first | assumption | omega)) ?_ | (refine J_cond_dec rfl (fun _ => ?_) (fun _ => ?_)) | (refine J_cond rfl (fun _ => ?_) (fun _ => ?_))))
      · skip
        refine J_leave Try.func36 rfl (.agg' hs rfl rfl (.tmp rfl .nil)) ?_
        have he : e ≠ 0 := by assumption
        rw [if_neg he]
        exact ColRes.zero _ hs.frm.ext
      · have he : e = 0 := by first | assumption | omega
        rw [if_pos he]
        refine J_leave Try.func36 rfl (.agg' hs rfl rfl (.tmp rfl .nil)) ⟨_, _, rfl, hs.out (.cons _ (.cons_cons _ (.cons _ .slnil)))⟩
    · rw [if_neg hr]
      have hw := colB_W hB
      repeat' (first
        | ((apply al_none; refine JL_o (OpR_callF en28 rfl (check_r _ _ _ _ _ _)) rfl rfl ?_; rintro _ _ ⟨hE, rfl⟩; have hs := hs.ext hE; rw [if_pos hB]))
        | (apply JL_nil)
        | ((first | (apply JL_pure) | (apply JL_pure_on; exact rfl; (first | assumption | exact rfl | exact decide_eq_true (by first | assumption | omega) | exact decide_eq_false (by first | assumption | omega)))); (first
      | (apply as_move; first | exact OpR_move rfl is_rfl)
      | (apply as_assign; first | exact OpR_assign rfl is_rfl)
      | (apply as_fieldAddr; first | exact OpR_fieldAddr0 rfl rfl is_rfl | exact OpR_fieldAddr rfl rfl is_rfl)
      | (apply as_load; first | exact OpR_load' hs rfl rfl is_rfl | exact OpR_load_agg' hs rfl is_rfl)
      | (apply as_binOp; first | exact OpR_ibin rfl rfl rfl is_rfl | exact OpR_beq rfl rfl is_rfl | exact OpR_bne rfl rfl is_rfl | exact OpR_eqNil rfl rfl is_rfl | exact OpR_neNil rfl rfl is_rfl)
      | (apply as_pick; first | exact OpR_pick_t rfl (by first | assumption | rfl | exact decide_eq_true (by first | assumption | omega) | exact decide_eq_false (by first | assumption | omega)) rfl is_rfl | exact OpR_pick_f rfl (by first | assumption | rfl | exact decide_eq_true (by first | assumption | omega) | exact decide_eq_false (by first | assumption | omega)) rfl is_rfl)
      | (apply as_build; first | exact OpR_build rfl (by (simp only [bld, placesOf, splice, Value.cells, List.take_succ_cons, List.take_zero, List.drop_succ_cons, List.drop_zero, List.cons_append, List.nil_append, List.length_cons, List.length_nil, List.getElem?_cons_zero, List.getElem?_cons_succ, Option.map_some, List.append_nil, Nat.reduceAdd, Nat.reduceMul, Nat.zero_add, Nat.reduceLeDiff, and_self, if_true, List.toList_toArray, Nat.le_refl, Nat.zero_mul, Nat.one_mul]; first | done | rfl)) is_rfl | exact OpR_build_arr rfl (by (simp only [bld, placesOf, splice, Value.cells, List.take_succ_cons, List.take_zero, List.drop_succ_cons, List.drop_zero, List.cons_append, List.nil_append, List.length_cons, List.length_nil, List.getElem?_cons_zero, List.getElem?_cons_succ, Option.map_some, List.append_nil, Nat.reduceAdd, Nat.reduceMul, Nat.zero_add, Nat.reduceLeDiff, and_self, if_true, List.toList_toArray, Nat.le_refl, Nat.zero_mul, Nat.one_mul]; first | done | rfl)) is_rfl)); first | (exact rfl; exact rfl) | exact rfl)
        | (apply J_seq)
        | (apply J_region)
        | (apply J_skip)
        | (apply al_none; (first | (refine JL_o (by apply as_box; exact OpR_box' hs rfl) rfl rfl ?_) | (refine JL_o (by apply as_alloc; exact OpR_alloc' hs) rfl rfl ?_)); rintro _ _ ⟨_, rfl, hb, hs, hE⟩)
        | (apply al_unit; refine JL_u (by apply as_store; exact OpR_store' hs rfl rfl rfl) rfl ?_; rintro _ _ ⟨hs, hF⟩)
        | (apply al_guard; first
    | (refine JL_no rfl (by first | assumption | rfl | exact decide_eq_true (by first | assumption | omega) | exact decide_eq_false (by first | assumption | omega)) rfl ?_)
    | (fail_if_success (apply JL_o_on rfl (by first | assumption | rfl | exact decide_eq_true (by first | assumption | omega) | exact decide_eq_false (by first | assumption | omega)))); first | (refine JL_split_dec rfl (fun _ => ?_) (fun _ => ?_)) | (refine JL_split rfl (fun _ => ?_) (fun _ => ?_)))
        | (apply aj_cond; first | refine J_dec_t rfl (by first | assumption | omega) ?_ | refine J_dec_f rfl (by first | assumption | omega) ?_ | refine J_cond_t rfl (by first | assumption | rfl | exact decide_eq_true (by first | assumption | omega) | exact decide_eq_false (by first | assumption | omega)) ?_ | refine J_cond_f rfl (by first | assumption | rfl | exact decide_eq_true (by first | assumption | omega) | exact decide_eq_false (by first | assumption | omega)) ?_ | (refine J_cond_dec rfl (fun _ => ?_) (fun _ => ?_)) | (refine J_cond rfl (fun _ => ?_) (fun _ => ?_))))
      all_goals first | (refine J_leave Try.func36 rfl (.agg' hs rfl rfl (.tmp rfl .nil)) (ColRes.zero _ hs.frm.ext)) | (exfalso; omega)
  · rw [if_neg hB]
    repeat' (first
      | ((apply al_none; refine JL_o (OpR_callF en28 rfl (check_r _ _ _ _ _ _)) rfl rfl ?_; rintro _ _ ⟨hE, rfl⟩; have hs := hs.ext hE; rw [if_neg hB]))
      | (apply JL_nil)
      | ((first | (apply JL_pure) | (apply JL_pure_on; exact rfl; (first | assumption | exact rfl | exact decide_eq_true (by first | assumption | omega) | exact decide_eq_false (by first | assumption | omega)))); (first
      | (apply as_move; first | exact OpR_move rfl is_rfl)
      | (apply as_assign; first | exact OpR_assign rfl is_rfl)
      | (apply as_fieldAddr; first | exact OpR_fieldAddr0 rfl rfl is_rfl | exact OpR_fieldAddr rfl rfl is_rfl)
      | (apply as_load; first | exact OpR_load' hs rfl rfl is_rfl | exact OpR_load_agg' hs rfl is_rfl)
      | (apply as_binOp; first | exact OpR_ibin rfl rfl rfl is_rfl | exact OpR_beq rfl rfl is_rfl | exact OpR_bne rfl rfl is_rfl | exact OpR_eqNil rfl rfl is_rfl | exact OpR_neNil rfl rfl is_rfl)
      | (apply as_pick; first | exact OpR_pick_t rfl (by first | assumption | rfl | exact decide_eq_true (by first | assumption | omega) | exact decide_eq_false (by first | assumption | omega)) rfl is_rfl | exact OpR_pick_f rfl (by first | assumption | rfl | exact decide_eq_true (by first | assumption | omega) | exact decide_eq_false (by first | assumption | omega)) rfl is_rfl)
      | (apply as_build; first | exact OpR_build rfl (by (simp only [bld, placesOf, splice, Value.cells, List.take_succ_cons, List.take_zero, List.drop_succ_cons, List.drop_zero, List.cons_append, List.nil_append, List.length_cons, List.length_nil, List.getElem?_cons_zero, List.getElem?_cons_succ, Option.map_some, List.append_nil, Nat.reduceAdd, Nat.reduceMul, Nat.zero_add, Nat.reduceLeDiff, and_self, if_true, List.toList_toArray, Nat.le_refl, Nat.zero_mul, Nat.one_mul]; first | done | rfl)) is_rfl | exact OpR_build_arr rfl (by (simp only [bld, placesOf, splice, Value.cells, List.take_succ_cons, List.take_zero, List.drop_succ_cons, List.drop_zero, List.cons_append, List.nil_append, List.length_cons, List.length_nil, List.getElem?_cons_zero, List.getElem?_cons_succ, Option.map_some, List.append_nil, Nat.reduceAdd, Nat.reduceMul, Nat.zero_add, Nat.reduceLeDiff, and_self, if_true, List.toList_toArray, Nat.le_refl, Nat.zero_mul, Nat.one_mul]; first | done | rfl)) is_rfl)); first | (exact rfl; exact rfl) | exact rfl)
      | (apply J_seq)
      | (apply J_region)
      | (apply J_skip)
      | (apply al_none; (first | (refine JL_o (by apply as_box; exact OpR_box' hs rfl) rfl rfl ?_) | (refine JL_o (by apply as_alloc; exact OpR_alloc' hs) rfl rfl ?_)); rintro _ _ ⟨_, rfl, hb, hs, hE⟩)
      | (apply al_unit; refine JL_u (by apply as_store; exact OpR_store' hs rfl rfl rfl) rfl ?_; rintro _ _ ⟨hs, hF⟩)
      | (apply al_guard; first
    | (refine JL_no rfl (by first | assumption | rfl | exact decide_eq_true (by first | assumption | omega) | exact decide_eq_false (by first | assumption | omega)) rfl ?_)
    | (fail_if_success (apply JL_o_on rfl (by first | assumption | rfl | exact decide_eq_true (by first | assumption | omega) | exact decide_eq_false (by first | assumption | omega)))); first | (refine JL_split_dec rfl (fun _ => ?_) (fun _ => ?_)) | (refine JL_split rfl (fun _ => ?_) (fun _ => ?_)))
      | (apply aj_cond; first | refine J_dec_t rfl (by first | assumption | omega) ?_ | refine J_dec_f rfl (by first | assumption | omega) ?_ | refine J_cond_t rfl (by first | assumption | rfl | exact decide_eq_true (by first | assumption | omega) | exact decide_eq_false (by first | assumption | omega)) ?_ | refine J_cond_f rfl (by first | assumption | rfl | exact decide_eq_true (by first | assumption | omega) | exact decide_eq_false (by first | assumption | omega)) ?_ | (refine J_cond_dec rfl (fun _ => ?_) (fun _ => ?_)) | (refine J_cond rfl (fun _ => ?_) (fun _ => ?_))))
    refine J_leave Try.func36 rfl (.agg' hs rfl rfl (.tmp rfl .nil)) (ColRes.zero _ hs.frm.ext)

def spl {α : Type} (cs : List α) (off : Nat) (vs : List α) : List α := cs.take off ++ vs ++ cs.drop (off + vs.length)
theorem u64s_spl (cs vs : List Int) (off : Nat) : u64s (spl cs off vs) = splice (u64s cs) off (u64s vs) := by simp [spl, splice, u64s, List.map_take, List.map_drop]
theorem spl_length {α : Type} {cs vs : List α} {off : Nat} (h : off + vs.length ≤ cs.length) : (spl cs off vs).length = cs.length := by
  simp only [spl, List.length_append, List.length_take, List.length_drop]; omega
theorem u64s_one (ws : List Int) : ∀ u ∈ u64s ws, u.oneCell' = true := by
  intro u hu; obtain ⟨x, _, rfl⟩ := List.mem_map.1 hu; rfl
theorem addr_add0 (a : Option Addr) : a.map (·.add 0) = a := by cases a <;> simp [Addr.add]
def swapW (W R r : Int) (ws : List Int) : List Int := (spl ws (r * W).toNat ((ws.drop ((R - 1) * W).toNat).take W.toNat)).take ((R - 1) * W).toNat
def setW (W r : Int) (ws vs : List Int) : List Int := if (vs.length : Int) = W then spl ws (r * W).toNat vs else ws
theorem row_bd {W R r : Int} {n : Nat} (hB : colB W R n = true) (hr : 0 ≤ r ∧ r < R) : 0 ≤ r * W ∧ r * W + W ≤ n ∧ 0 ≤ (R - 1) * W ∧ (R - 1) * W + W = n ∧ r * W ≤ (R - 1) * W := by
  have hw := colB_W hB
  have e1 : (R - 1) * W = R * W - W := by rw [Int.sub_mul, Int.one_mul]
  have b1 : r * W ≤ (R - 1) * W := Int.mul_le_mul_of_nonneg_right (by omega) (by omega)
  have b2 : 0 ≤ r * W := Int.mul_nonneg (by omega) (by omega)
  have e2 : W * R = R * W := Int.mul_comm _ _
  omega
theorem swap1_ok (w0 : World) (W R r : Int) (ws : List Int) (br : Nat) (hc : w0.cell? ⟨br, 0, none⟩ = some (.int .i64 r)) (hB : colB W R ws.length = true) (hr : 0 ≤ r ∧ r < R) :
    DoOk (.func (.func 37) #[] #[ptr br]) w0 W R ws 0 (R - 1) (swapW W R r ws) := by
  intro w b a c hE0 hfo hH
  refine RetV.closure (avs := [_]) (cap := [_]) en37 ?_
  refine Ret_of (l := [_, _]) Try.func37 rfl Try.ntmps37 (by simp) ?_
  have hs := hH.st
  have hw := colB_W hB
  have hb := row_bd hB hr
  have hrow := hs.row a ws.length c
  have hcap := hrow.cap
  have hp := hrow.plain
  have hl1 : (((u64s ws).drop ((R - 1) * W).toNat).take W.toNat).length = W.toNat := by simp; omega
  repeat' (first
    | ((refine JD_c rfl (OpR_callF en35 rfl (at_r _ W R _ a ws.length c (by omega) (by omega) (by omega) (by omega) hcap.1)) (fun _ _ h => h.1) rfl ?_; rintro _ _ ⟨hE, rfl⟩; have hs := hs.ext hE))
    | ((apply al_none; refine JL_o (by apply as_b_copy; exact OpR_copyRow (a := a) (n := ws.length) (c := c) (off := (r * W).toNat) (vs := ((u64s ws).drop ((R - 1) * W).toNat).take W.toNat) hs rfl rfl (fun h => if_neg (by omega)) (by omega) (by rw [Nat.min_self]; exact (hs.row a ws.length c).srcPart (u64s_one ws) (by intro h; by_cases hW : W = 0; omega; rw [if_neg hW] at h; cases a; have := hcap.2.2 rfl; omega; cases h) (by omega) (fun h => if_neg (by omega))) (fun _ => by split; exact hp; exact hp.add _)) rfl rfl ?_; rintro _ _ ⟨rfl, hs, hF⟩))
    | (apply JL_nil)
    | ((first | (apply JL_pure) | (apply JD_f; exact rfl; exact hs; intro W hE hs)); (first
      | (apply as_load; exact OpR_load_cell (hs.cell0 hE0 hfo hc) rfl is_rfl)
      | (apply as_mul; exact OpR_mul rfl rfl (by omega) is_rfl)
      | (apply as_slice; exact OpR_slice (kl := .i64) (a' := a) rfl (.inl ⟨rfl, rfl⟩) (.inr ⟨_, rfl, rfl⟩) (.inr ⟨_, rfl, rfl⟩) (by omega) (by omega) (by omega) (by omega) (by split; rfl; exact addr_add0 a) is_rfl)
      | (apply as_move; first | exact OpR_move rfl is_rfl)
      | (apply as_assign; first | exact OpR_assign rfl is_rfl)
      | (apply as_fieldAddr; first | exact OpR_fieldAddr0 rfl rfl is_rfl | exact OpR_fieldAddr rfl rfl is_rfl)
      | (apply as_load; first | exact OpR_load' hs rfl rfl is_rfl | exact OpR_load_agg' hs rfl is_rfl)
      | (apply as_sub; first | exact OpR_sub rfl rfl (by omega) is_rfl | exact OpR_ibin rfl rfl rfl is_rfl)
      | (apply as_binOp; first | exact OpR_ibin rfl rfl rfl is_rfl | exact OpR_beq rfl rfl is_rfl | exact OpR_bne rfl rfl is_rfl | exact OpR_eqNil rfl rfl is_rfl | exact OpR_neNil rfl rfl is_rfl)
      | (apply as_nilCheck; first | exact OpR_nilCheck rfl is_rfl | exact OpR_nilCheck_func rfl is_rfl)); first | (exact rfl; exact rfl) | exact rfl)
    | (apply J_seq)
    | (apply J_region)
    | (apply al_unit; refine JL_u (by apply as_store; exact OpR_store' hs rfl rfl rfl) rfl ?_; rintro _ _ ⟨hs, hF⟩)
    | (apply aj_cond; first | refine J_dec_t rfl (by first | assumption | omega) ?_ | refine J_dec_f rfl (by first | assumption | omega) ?_ | refine J_cond_t rfl (by first | assumption | rfl | exact decide_eq_true (by first | assumption | omega) | exact decide_eq_false (by first | assumption | omega)) ?_ | refine J_cond_f rfl (by first | assumption | rfl | exact decide_eq_true (by first | assumption | omega) | exact decide_eq_false (by first | assumption | omega)) ?_ | (refine J_cond_dec rfl (fun _ => ?_) (fun _ => ?_)) | (refine J_cond rfl (fun _ => ?_) (fun _ => ?_)))
    | (apply aj_draw; first
    | (refine J_draw (id := 1) NoF [0, 1, 3, 0, 15, 0, 32, 96, 0, 256, 768, 1792, 3840, 8191, 16383] [(0, false), (1, false), (2, false), (3, false), (5, false), (6, false), (7, false), (8, false), (9, false), (10, false), (11, false), (12, false), (4, true), (13, true)] [14] mixed (by kernel_rfl) (by kernel_rfl) ?_; intro _ hE _; have hs := hs.ext hE)
    | (refine J_draw (id := 3) NoF [0, 0, 2, 6, 14, 0, 32, 96, 224, 0, 512, 1536, 3584, 8160, 0, 16384, 49152, 114688, 0, 262144, 786432, 1835008, 4177920, 8388606, 16777215, 33554431, 67108863] [(0, false), (1, false), (2, false), (3, false), (4, false), (5, false), (6, false), (7, false), (8, false), (9, false), (10, false), (11, false), (12, false), (13, false), (14, false), (15, false), (16, false), (17, false), (18, false), (19, false), (20, false), (21, false), (22, false), (23, false), (24, false), (25, false)] [26] mixed (by kernel_rfl) (by kernel_rfl) ?_; intro _ hE _; have hs := hs.ext hE))
    | (apply JD_done)
    | (apply JD_tail; case' hos => (simp only [List.map_cons, List.map_nil, List.getElem?_toArray, List.getElem?_cons_succ, List.getElem?_cons_zero]; repeat' (first | exact ms_nil | apply ms_cons))))
  have e0 : ((R - 1) * W - 0).toNat = ((R - 1) * W).toNat := by rw [Int.sub_zero]
  rw [e0] at hs
  have hlv : ((ws.drop ((R - 1) * W).toNat).take W.toNat).length = W.toNat := by simp; omega
  have hsp : (spl ws (r * W).toNat ((ws.drop ((R - 1) * W).toNat).take W.toNat)).length = ws.length := spl_length (by omega)
  have hlen : (swapW W R r ws).length = ((R - 1) * W).toNat := by rw [swapW, List.length_take, hsp]; omega
  have hval : u64s (swapW W R r ws) = (splice (u64s ws) (r * W).toNat (((u64s ws).drop ((R - 1) * W).toNat).take W.toNat)).take (((R - 1) * W).toNat * 1) := by
    rw [Nat.mul_one, swapW]
    have := u64s_spl ws ((ws.drop ((R - 1) * W).toNat).take W.toNat) (r * W).toNat
    simp only [u64s, List.map_take, List.map_drop] at this ⊢
    rw [this]
  have hs3 : St _ _ _ [_, _] := hs.perm (List.perm_append_comm (l₁ := [_]) (l₂ := [_]))
  have hs4 := hs3.cutRow ((R - 1) * W).toNat ((R - 1) * W).toNat (by omega) (Nat.le_refl _) (by omega)
  have hs5 : St _ _ _ [_, _] := hs4.perm (List.perm_append_comm (l₁ := [_]) (l₂ := [_]))
  refine J_leave Try.func37 rfl (.tmp rfl .nil) ⟨rfl, a, ((R - 1) * W).toNat, ?_⟩
  rw [hlen, hval]
  exact St.turned (M := []) (A' := [_, _]) hs5
/-- Swap. -/
theorem swap_r (w : World) (W R r : Int) (a : Option Addr) (n c : Nat) (ws : List Int) (h : WR w a n c ws) :
    Ret Try.prog 15 #[.agg #[.int .i64 W, .int .i64 R, .slice a n c], .int .i64 r] w fun v w' => ColRes v w w' (doesM W R r n 0 (R - 1) (swapW W R r ws)) := by
  refine Ret_of (l := [_, _]) Try.func15 rfl Try.ntmps15 (by simp) ?_
  have hs := St.init w
  have hl := h.len
  repeat' (first
    | ((apply al_none; refine JL_o (OpR_callF en36 rfl (does_r _ W R r a n c ws _ 0 (R - 1) (swapW W R r ws) (h.st hs) (fun hB hr => swap1_ok _ W R r ws _ (cell_blk (off := 0) hs.blk rfl) (by rw [hl]; exact hB) hr))) rfl rfl ?_; rintro _ _ ⟨a2, c2, rfl, hf⟩; have hs : St _ _ _ [_, _, _, _] := hs.fresh hf))
    | (apply JL_nil)
    | ((first | (apply JL_pure)); (first
      | (apply as_assign; first | exact OpR_assign rfl is_rfl)
      | (apply as_load; first | exact OpR_load' hs rfl rfl is_rfl | exact OpR_load_agg' hs rfl is_rfl)
      | (apply as_extract; first | exact OpR_extract rfl rfl is_rfl)
      | (apply as_makeFunc; first | exact OpR_func rfl is_rfl)); first | (exact rfl; exact rfl) | exact rfl)
    | (apply J_seq)
    | (apply J_region)
    | (apply al_none; (first | (refine JL_o (by apply as_box; exact OpR_box' hs rfl) rfl rfl ?_) | (refine JL_o (by apply as_alloc; exact OpR_alloc' hs) rfl rfl ?_)); rintro _ _ ⟨_, rfl, hb, hs, hE⟩)
    | (apply al_unit; refine JL_u (by apply as_store; exact OpR_store' hs rfl rfl rfl) rfl ?_; rintro _ _ ⟨hs, hF⟩)
    | (apply aj_cond; first | refine J_dec_t rfl (by first | assumption | omega) ?_ | refine J_dec_f rfl (by first | assumption | omega) ?_ | refine J_cond_t rfl (by first | assumption | rfl | exact decide_eq_true (by first | assumption | omega) | exact decide_eq_false (by first | assumption | omega)) ?_ | refine J_cond_f rfl (by first | assumption | rfl | exact decide_eq_true (by first | assumption | omega) | exact decide_eq_false (by first | assumption | omega)) ?_ | (refine J_cond_dec rfl (fun _ => ?_) (fun _ => ?_)) | (refine J_cond rfl (fun _ => ?_) (fun _ => ?_))))
  refine J_leave Try.func15 rfl (.agg' hs rfl rfl (.tmp rfl .nil)) ⟨_, _, rfl, hs.out (.cons_cons _ (.cons _ (.cons _ (.cons _ .slnil))))⟩
/-- Set's part. -/
theorem set1_ok (w0 : World) (W R r : Int) (ws vs : List Int) (av : Option Addr) (nv cv bv br : Nat) (hcv : w0.cell? ⟨bv, 0, none⟩ = some (.slice av nv cv)) (hv : WR w0 av nv cv vs) (hc : w0.cell? ⟨br, 0, none⟩ = some (.int .i64 r)) (hB : colB W R ws.length = true) (hr : 0 ≤ r ∧ r < R) :
    DoOk (.func (.func 38) #[] #[ptr bv, ptr br]) w0 W R ws (if (vs.length : Int) = W then 0 else 140) R (setW W r ws vs) := by
  intro w b a c hE0 hfo hH
  refine RetV.closure (avs := [_]) (cap := [_, _]) en38 ?_
  refine Ret_of (l := [_, _, _]) Try.func38 rfl Try.ntmps38 (by simp) ?_
  have hs := hH.st
  have hw := colB_W hB
  have hb := row_bd hB hr
  have hrow := hs.row a ws.length c
  have hcap := hrow.cap
  have hp := hrow.plain
  have hlv := hv.len
  repeat' (first
    | ((refine JD_c rfl (OpR_callF en35 rfl (at_r _ W R _ a ws.length c (by omega) (by omega) (by omega) (by omega) hcap.1)) (fun _ _ h => h.1) rfl ?_; rintro _ _ ⟨hE, rfl⟩; have hs := hs.ext hE))
    | ((apply al_none; refine JL_o (by apply as_b_copy; exact OpR_copyRow (a := a) (n := ws.length) (c := c) (off := (r * W).toNat) (vs := u64s vs) hs rfl rfl (fun h => if_neg (by omega)) (by omega) (by rw [show min nv W.toNat = nv by omega]; exact (hv.2.2.2.loc' (fun k _ hk => hs.old0 hE0 hfo k hk)).srcInt) (fun h0 => hv.2.2.2.plain (by omega))) rfl rfl ?_; rintro _ _ ⟨rfl, hs, hF⟩))
    | (apply JL_nil)
    | ((first | (apply JL_pure) | (apply JD_f; exact rfl; exact hs; intro W hE hs)); (first
      | (apply as_load; first | exact OpR_load_cell (hs.cell0 hE0 hfo hc) rfl is_rfl | exact OpR_load_cell (hs.cell0 hE0 hfo hcv) rfl is_rfl)
      | (apply as_move; first | exact OpR_move rfl is_rfl)
      | (apply as_assign; first | exact OpR_assign rfl is_rfl)
      | (apply as_fieldAddr; first | exact OpR_fieldAddr0 rfl rfl is_rfl | exact OpR_fieldAddr rfl rfl is_rfl)
      | (apply as_load; first | exact OpR_load' hs rfl rfl is_rfl | exact OpR_load_agg' hs rfl is_rfl)
      | (apply as_binOp; first | exact OpR_ibin rfl rfl rfl is_rfl | exact OpR_beq rfl rfl is_rfl | exact OpR_bne rfl rfl is_rfl | exact OpR_eqNil rfl rfl is_rfl | exact OpR_neNil rfl rfl is_rfl)
      | (apply as_b_len; first | exact OpR_len rfl is_rfl | exact OpR_len_str rfl is_rfl | exact OpR_len_arr rfl is_rfl)
      | (apply as_nilCheck; first | exact OpR_nilCheck rfl is_rfl | exact OpR_nilCheck_func rfl is_rfl)); first | (exact rfl; exact rfl) | exact rfl)
    | (apply J_seq)
    | (apply J_region)
    | (apply J_skip)
    | (apply aj_cond; first | refine J_dec_t rfl (by first | assumption | omega) ?_ | refine J_dec_f rfl (by first | assumption | omega) ?_ | refine J_cond_t rfl (by first | assumption | rfl | exact decide_eq_true (by first | assumption | omega) | exact decide_eq_false (by first | assumption | omega)) ?_ | refine J_cond_f rfl (by first | assumption | rfl | exact decide_eq_true (by first | assumption | omega) | exact decide_eq_false (by first | assumption | omega)) ?_ | (refine J_cond_dec rfl (fun _ => ?_) (fun _ => ?_)) | (refine J_cond rfl (fun _ => ?_) (fun _ => ?_)))
    | (apply aj_draw; first
    | (refine J_draw (id := 1) NoF [0, 1, 0, 4, 12, 28, 63] [(0, false), (1, false), (2, false), (3, false), (4, false), (5, false), (6, false)] [] mixed (by kernel_rfl) (by kernel_rfl) ?_; intro _ hE _; have hs := hs.ext hE)
    | (refine J_draw (id := 3) NoF [0, 1, 3, 0, 15, 0, 63] [(0, false), (1, false), (2, false), (3, false), (5, false), (4, true)] [6] mixed (by kernel_rfl) (by kernel_rfl) ?_; intro _ hE _; have hs := hs.ext hE))
    | (apply JD_done)
    | (apply JD_tail; case' hos => (simp only [List.map_cons, List.map_nil, List.getElem?_toArray, List.getElem?_cons_succ, List.getElem?_cons_zero]; repeat' (first | exact ms_nil | apply ms_cons))))
  · have hne : ¬ ((vs.length : Int) = W) := by omega
    refine J_leave Try.func38 rfl (.tmp rfl .nil) ⟨?_, a, c, ?_⟩
    · rw [if_neg hne]; rfl
    · rw [setW, if_neg hne]
      exact St.turned (M := []) (A' := [_, _]) hs
  · have he : (vs.length : Int) = W := by omega
    refine J_leave Try.func38 rfl (.tmp rfl .nil) ⟨?_, a, c, ?_⟩
    · rw [if_pos he]; rfl
    · rw [setW, if_pos he, spl_length (by omega), u64s_spl]
      exact St.turned (M := []) (A' := [_, _]) hs
def setM (W R r : Int) (ws vs : List Int) : Int × Int × List Int × Int := doesM W R r ws.length (if (vs.length : Int) = W then 0 else 140) R (setW W r ws vs)
/-- Set. -/
theorem set_r (w : World) (W R r : Int) (a av : Option Addr) (n c nv cv : Nat) (ws vs : List Int) (h : WR w a n c ws) (hv : WR w av nv cv vs) :
    Ret Try.prog 22 #[.agg #[.int .i64 W, .int .i64 R, .slice a n c], .int .i64 r, .slice av nv cv] w fun v w' => ColRes v w w' (setM W R r ws vs) := by
  refine Ret_of (l := [_, _, _]) Try.func22 rfl Try.ntmps22 (by simp) ?_
  have hs := St.init w
  have hl := h.len
  subst hl
  repeat' (first
    | ((apply al_none; refine JL_o (OpR_callF en36 rfl (does_r _ W R r a _ c ws _ _ R (setW W r ws vs) (h.st hs) (fun hB hr => set1_ok _ W R r ws vs av nv cv _ _ (cell_blk (off := 0) hs.blk rfl) (hv.st hs) (cell_blk (off := 0) hs.blk rfl) hB hr))) rfl rfl ?_; rintro _ _ ⟨a2, c2, rfl, hf⟩; have hs : St _ _ _ [_, _, _, _, _] := hs.fresh hf))
    | (apply JL_nil)
    | ((first | (apply JL_pure)); (first
      | (apply as_assign; first | exact OpR_assign rfl is_rfl)
      | (apply as_load; first | exact OpR_load' hs rfl rfl is_rfl | exact OpR_load_agg' hs rfl is_rfl)
      | (apply as_extract; first | exact OpR_extract rfl rfl is_rfl)
      | (apply as_makeFunc; first | exact OpR_func rfl is_rfl)); first | (exact rfl; exact rfl) | exact rfl)
    | (apply J_seq)
    | (apply J_region)
    | (apply al_none; (first | (refine JL_o (by apply as_box; exact OpR_box' hs rfl) rfl rfl ?_) | (refine JL_o (by apply as_alloc; exact OpR_alloc' hs) rfl rfl ?_)); rintro _ _ ⟨_, rfl, hb, hs, hE⟩)
    | (apply al_unit; refine JL_u (by apply as_store; exact OpR_store' hs rfl rfl rfl) rfl ?_; rintro _ _ ⟨hs, hF⟩)
    | (apply aj_cond; first | refine J_dec_t rfl (by first | assumption | omega) ?_ | refine J_dec_f rfl (by first | assumption | omega) ?_ | refine J_cond_t rfl (by first | assumption | rfl | exact decide_eq_true (by first | assumption | omega) | exact decide_eq_false (by first | assumption | omega)) ?_ | refine J_cond_f rfl (by first | assumption | rfl | exact decide_eq_true (by first | assumption | omega) | exact decide_eq_false (by first | assumption | omega)) ?_ | (refine J_cond_dec rfl (fun _ => ?_) (fun _ => ?_)) | (refine J_cond rfl (fun _ => ?_) (fun _ => ?_))))
  refine J_leave Try.func22 rfl (.agg' hs rfl rfl (.tmp rfl .nil)) ⟨_, _, rfl, hs.out (.cons_cons _ (.cons _ (.cons _ (.cons _ (.cons _ .slnil)))))⟩
end Go.Eng
