/- Column: the law ColumnRows. -/
import Derived.Test.YtkeejkengoolpaaC8
namespace Go.Eng
open Go.Proofs
attribute [local irreducible] J JL JD OpR OpG Ret RetV Is Ext Blk Row
set_option maxRecDepth 100000
set_option maxHeartbeats 2000000
set_option linter.unusedSimpArgs false
set_option linter.unusedVariables false
theorem equal19_t (w : World) (a1 a2 : Option Addr) (n1 c1 n2 c2 : Nat) (xs : List Int) (h1 : WR w a1 n1 c1 xs) (h2 : WR w a2 n2 c2 xs) : Ret Try.prog 19 #[.slice a1 n1 c1, .slice a2 n2 c2] w fun v w' => v = .bool true ∧ Ext w w' := by
  have := equal19_r w a1 a2 n1 c1 n2 c2 xs xs All All h1.2.2.2 h2.2.2.2 (by have := h1.1; have := h1.2.1; unfold maxLen at *; omega)
  rwa [decide_eq_true rfl] at this
theorem rsame_t (w : World) (W1 R1 W2 R2 : Int) (a1 a2 : Option Addr) (n1 c1 n2 c2 : Nat) (xs ys : List Int) (h1 : WR w a1 n1 c1 xs) (h2 : WR w a2 n2 c2 ys) (e : W1 = W2 ∧ R1 = R2 ∧ xs = ys) :
    Ret Try.prog 20 #[.agg #[.int .i64 W1, .int .i64 R1, .slice a1 n1 c1], .agg #[.int .i64 W2, .int .i64 R2, .slice a2 n2 c2]] w fun v w' => v = .bool true ∧ Ext w w' := by
  have := rsame_r w W1 R1 W2 R2 a1 a2 n1 c1 n2 c2 xs ys h1.2.2.2 h2.2.2.2 (by have := h1.1; have := h1.2.1; unfold maxLen at *; omega)
  rwa [decide_eq_true e] at this
theorem Sl.ofRep {α : Type} {d : Ty α} {R : Nat → Prop} {w : World} {a : Option Addr} {n c : Nat} {xs : List α} (h : (tSl d).rep R w [.slice a n c] xs) : Sl d R w a n c xs := by
  obtain ⟨a', n', c', e, h1, h2, h3, h4⟩ := h
  injection e with e _
  injection e with e1 e2 e3
  subst e1; subst e2; subst e3
  exact ⟨h1, h2, h3, h4⟩
theorem DatsV.wr {R : Nat → Prop} {w : World} {cells : List Value} {xss : List (List Int)} (h : DatsV R (tSl (tInt .u64)) w cells xss) {i : Nat} {a : Option Addr} {n c : Nat} {xs : List Int} (hc : cells[i]? = some (.slice a n c)) (hx : xss[i]? = some xs) : WR w a n c xs :=
  ((Sl.ofRep (h.2 i _ _ hc hx)).weak (fun _ _ => trivial)).wr
theorem DatsV.cell {R : Nat → Prop} {w : World} {cells : List Value} {xss : List (List Int)} (h : DatsV R (tSl (tInt .u64)) w cells xss) {i : Nat} {xs : List Int} (hx : xss[i]? = some xs) : ∃ a n c, cells[i]? = some (.slice a n c) := by
  have hi := (List.getElem?_eq_some_iff.1 hx).1
  have hl := h.1
  have hc := List.getElem?_eq_getElem (l := cells) (i := i) (by omega)
  obtain ⟨a, n, c, e, _⟩ := h.2 i _ _ hc hx
  injection e with e _
  rw [e] at hc
  exact ⟨a, n, c, hc⟩
theorem u64_take {ws : List Int} (h : U64 ws) (k : Nat) : U64 (ws.take k) := fun x hx => h x (List.mem_of_mem_take hx)
theorem u64_drop {ws : List Int} (h : U64 ws) (k : Nat) : U64 (ws.drop k) := fun x hx => h x (List.mem_of_mem_drop hx)
theorem u64_row {Wd r : Int} {ws : List Int} (h : U64 ws) : U64 (rowOf Wd r ws) := u64_take (u64_drop h _) _
theorem u64_spl {cs vs : List Int} {k : Nat} (h : U64 cs) (h2 : U64 vs) : U64 (spl cs k vs) := by
  intro x hx
  simp only [spl, List.mem_append] at hx
  rcases hx with (hx | hx) | hx
  · exact h x (List.mem_of_mem_take hx)
  · exact h2 x hx
  · exact h x (List.mem_of_mem_drop hx)
theorem u64_swap {Wd Rr r : Int} {ws : List Int} (h : U64 ws) : U64 (swapW Wd Rr r ws) := u64_take (u64_spl h (u64_take (u64_drop h _) _)) _
theorem u64_set {Wd r : Int} {ws vs : List Int} (h : U64 ws) (h2 : U64 vs) : U64 (setW Wd r ws vs) := by
  unfold setW; split
  · exact u64_spl h h2
  · exact h
theorem isv_f {p : Prop} [Decidable p] (h : ¬ p) : some (Value.bool (decide p)) = some (.bool false) := by rw [decide_eq_false h]
theorem isv_t {p : Prop} [Decidable p] (h : p) : some (Value.bool (decide p)) = some (.bool true) := by rw [decide_eq_true h]
theorem u64_nil : U64 [] := fun x hx => by simp at hx
theorem columnRows_r (w : World) (Wd Rr : Int) (a : Option Addr) (n c : Nat) (ws : List Int) (ar : Option Addr) (nr cr : Nat) (rows : List Int) (al : Option Addr) (nl cl : Nat) (vss : List (List Int)) (h : WR w a n c ws) (hrows : Sl (tInt .i64) All w ar nr cr rows) (hl : Sl (tSl (tInt .u64)) All w al nl cl vss) :
    Ret Try.prog 3 #[.agg #[.int .i64 Wd, .int .i64 Rr, .slice a n c], .slice ar nr cr, .slice al nl cl] w fun v w' => v = .bool true ∧ Ext w w' := by
  refine Ret_of (l := [_, _, _]) Try.func3 rfl Try.ntmps3 (by simp) ?_
  have hs := St.init w
  obtain ⟨c0, hc0⟩ : ∃ c0, c0 = ws.take 60 := ⟨_, rfl⟩
  have hu0 : U64 c0 := by rw [hc0]; exact u64_take h.u64 _
  have hlr := hrows.len
  have hrm := hrows.le
  have hrm2 := hrows.cap
  unfold maxLen at hrm2
  have hc60 : c0.length ≤ 60 := by rw [hc0]; simp; omega
  repeat' (first
    | ((apply al_none; refine JL_o (by apply as_box; exact OpR_box' (L := []) hs rfl) rfl rfl ?_; rintro _ _ ⟨b3, rfl, hb3, hs, hE⟩))
    | ((apply al_none; refine JL_o (by apply as_alloc; exact OpR_alloc' (L := [_, _]) hs) rfl rfl ?_; rintro _ _ ⟨b7, rfl, hb7, hs, hE⟩))
    | ((apply al_none; refine JL_o (OpR_callF en9 rfl (wakes_r _)) rfl rfl ?_; rintro _ _ ⟨hE, rfl⟩; have hs := hs.ext hE))
    | ((apply al_none; refine JL_o (OpR_callF en10 rfl (own_r _ Wd Rr a n c ws (h.st hs))) rfl rfl ?_; rw [← hc0]; rintro _ _ ⟨ac, cc, rfl, hf⟩; have hs : St _ _ _ [_, _] := hs.fresh hf))
    | ((apply al_none; refine JL_o (OpR_callF en11 rfl (values_r _ al nl cl vss (hl.st hs))) rfl rfl ?_; rintro _ _ ⟨Rl, a2, c2, cells, rfl, hf⟩; have hs : St _ _ _ [_, _, _, _, _] := hs.fresh hf))
    | ((apply al_none; refine JL_o (OpR_callF en12 rfl (small_r _ Wd Rr ac c0.length cc)) rfl rfl ?_; rintro _ _ ⟨hE, rfl⟩; have hs := hs.ext hE))
    | ((apply al_none; refine JL_o (OpR_callF en13 rfl (right_r _ Wd Rr ac c0.length cc)) rfl rfl ?_; rintro _ _ ⟨hE, rfl⟩; have hs := hs.ext hE))
    | (apply JL_nil)
    | ((first | (apply JL_pure) | (apply JL_pure_on; exact rfl; (first | assumption | exact rfl | exact decide_eq_true (by first | assumption | omega) | exact decide_eq_false (by first | assumption | omega))) | (apply JD_f; exact rfl; exact hs; intro W hE hs) | (apply JD_f_on; exact rfl; exact rfl; (first | assumption | exact rfl | exact decide_eq_true (by first | assumption | omega) | exact decide_eq_false (by first | assumption | omega)); exact hs; intro W hE hs)); (first
      | (apply as_move; first | exact OpR_move rfl is_rfl)
      | (apply as_assign; first | exact OpR_assign rfl is_rfl)
      | (apply as_fieldAddr; first | exact OpR_fieldAddr0 rfl rfl is_rfl | exact OpR_fieldAddr rfl rfl is_rfl)
      | (apply as_load; first | exact OpR_load' hs rfl rfl is_rfl | exact OpR_load_agg' hs rfl is_rfl)
      | (apply as_add; first | exact OpR_addn rfl rfl (by omega) (by first | (simp only [Int.reduceAdd]; exact rfl) | exact rfl) is_rfl | exact OpR_ibin rfl rfl rfl is_rfl)
      | (apply as_binOp; first | exact OpR_ibin rfl rfl rfl is_rfl | exact OpR_beq rfl rfl is_rfl | exact OpR_bne rfl rfl is_rfl | exact OpR_eqNil rfl rfl is_rfl | exact OpR_neNil rfl rfl is_rfl)
      | (apply as_unOp; first | exact OpR_not rfl is_rfl)
      | (apply as_pick; first | exact OpR_pick_t rfl (by first | assumption | rfl | exact decide_eq_true (by first | assumption | omega) | exact decide_eq_false (by first | assumption | omega)) rfl is_rfl | exact OpR_pick_f rfl (by first | assumption | rfl | exact decide_eq_true (by first | assumption | omega) | exact decide_eq_false (by first | assumption | omega)) rfl is_rfl)
      | (apply as_b_len; first | exact OpR_len rfl is_rfl | exact OpR_len_str rfl is_rfl | exact OpR_len_arr rfl is_rfl)
      | (apply as_extract; first | exact OpR_extract rfl rfl is_rfl)
      | (apply as_indexAddr; first | exact OpR_indexAddr rfl rfl (by omega) (by omega) is_rfl | exact OpR_indexAddr_arr' rfl rfl (by omega) (by omega) (by first | (simp only [Int.reduceToNat, Nat.reduceMul, Nat.reduceAdd]; exact rfl) | exact rfl) is_rfl)
      | (apply as_build; first | exact OpR_build rfl (by (simp only [bld, placesOf, splice, Value.cells, List.take_succ_cons, List.take_zero, List.drop_succ_cons, List.drop_zero, List.cons_append, List.nil_append, List.length_cons, List.length_nil, List.getElem?_cons_zero, List.getElem?_cons_succ, Option.map_some, List.append_nil, Nat.reduceAdd, Nat.reduceMul, Nat.zero_add, Nat.reduceLeDiff, and_self, if_true, List.toList_toArray, Nat.le_refl, Nat.zero_mul, Nat.one_mul]; first | done | rfl)) is_rfl | exact OpR_build_arr rfl (by (simp only [bld, placesOf, splice, Value.cells, List.take_succ_cons, List.take_zero, List.drop_succ_cons, List.drop_zero, List.cons_append, List.nil_append, List.length_cons, List.length_nil, List.getElem?_cons_zero, List.getElem?_cons_succ, Option.map_some, List.append_nil, Nat.reduceAdd, Nat.reduceMul, Nat.zero_add, Nat.reduceLeDiff, and_self, if_true, List.toList_toArray, Nat.le_refl, Nat.zero_mul, Nat.one_mul]; first | done | rfl)) is_rfl)); first | (exact rfl; exact rfl) | exact rfl)
    | (apply J_seq)
    | (apply J_region)
    | (apply J_block)
    | (apply J_inBlock)
    | (apply aj_exit; refine J_exit rfl ?_)
    | (apply J_skip)
    | (apply al_none; (first | (refine JL_o (by apply as_box; exact OpR_box' hs rfl) rfl rfl ?_) | (refine JL_o (by apply as_alloc; exact OpR_alloc' hs) rfl rfl ?_)); rintro _ _ ⟨_, rfl, hb, hs, hE⟩)
    | (apply al_unit; refine JL_u (by apply as_store; exact OpR_store' hs rfl rfl rfl) rfl ?_; rintro _ _ ⟨hs, hF⟩)
    | (apply al_guard; first
    | (refine JL_no rfl (by first | assumption | rfl | exact decide_eq_true (by first | assumption | omega) | exact decide_eq_false (by first | assumption | omega)) rfl ?_)
    | (fail_if_success (apply JL_o_on rfl (by first | assumption | rfl | exact decide_eq_true (by first | assumption | omega) | exact decide_eq_false (by first | assumption | omega)))); first | (refine JL_split_dec rfl (fun _ => ?_) (fun _ => ?_)) | (refine JL_split rfl (fun _ => ?_) (fun _ => ?_)))
    | (apply aj_cond; first | refine J_dec_t rfl (by first | assumption | omega) ?_ | refine J_dec_f rfl (by first | assumption | omega) ?_ | refine J_cond_t rfl (by first | assumption | rfl | exact decide_eq_true (by first | assumption | omega) | exact decide_eq_false (by first | assumption | omega)) ?_ | refine J_cond_f rfl (by first | assumption | rfl | exact decide_eq_true (by first | assumption | omega) | exact decide_eq_false (by first | assumption | omega)) ?_ | (refine J_cond_dec rfl (fun _ => ?_) (fun _ => ?_)) | (refine J_cond rfl (fun _ => ?_) (fun _ => ?_)))
    | (apply aj_draw; first
    | (refine J_draw (id := 22) [0, 0, 3, 7, 0, 16, 0, 0, 192, 496, 1023, 2047, 4095] [(0, false), (1, false), (2, false), (3, false), (4, false), (5, false), (6, false), (7, false), (8, true), (9, true), (10, false)] [11, 12] mixed (by kernel_rfl) (by kernel_rfl) ?_; intro _ hE _; have hs := hs.ext hE)
    | (refine J_draw (id := 39) [0, 1, 0, 4, 0, 0, 60, 127, 255, 511] [(0, false), (1, false), (2, false), (4, false), (5, false), (3, true), (6, true), (7, true)] [8, 9] mixed (by kernel_rfl) (by kernel_rfl) ?_; intro _ hE _; have hs := hs.ext hE)
    | (refine J_draw (id := 44) [0, 0, 2, 7, 15] [(0, false), (1, false), (2, true), (3, true), (4, false)] [] mixed (by kernel_rfl) (by kernel_rfl) ?_; intro _ hE _; have hs := hs.ext hE))
    | (apply JD_done)
    | (apply JD_tail; case' hos => (simp only [List.map_cons, List.map_nil, List.getElem?_toArray, List.getElem?_cons_succ, List.getElem?_cons_zero]; repeat' (first | exact ms_nil | apply ms_cons)))
    | (refine JD_f_off rfl rfl (by first | assumption | rfl | exact decide_eq_true (by first | assumption | omega) | exact decide_eq_false (by first | assumption | omega)) rfl ?_)
    | (refine JD_c_off rfl rfl (by first | assumption | rfl | exact decide_eq_true (by first | assumption | omega) | exact decide_eq_false (by first | assumption | omega)) rfl ?_)
    | (refine JD_split_dec rfl rfl (fun _ => ?_) (fun _ => ?_))
    | (refine JD_split rfl rfl (fun _ => ?_) (fun _ => ?_)))
  · refine J_leave Try.func3 rfl (.tmp rfl .nil) ⟨rfl, hs.frm.ext⟩
  obtain ⟨lv, hlv⟩ : ∃ lv, lv = valsOf vss := ⟨_, rfl⟩
  rw [← hlv] at hs ⊢
  have hlv8 : lv.length ≤ 8 := by rw [hlv]; simp [valsOf]; omega
  cases hB : colB Wd Rr c0.length with
  | false =>
    refine J_loop (α := Nat) (fun k w' => St w NoF w' [Row a2 lv.length c2 31 1 cells, Dats Rl (tSl (tInt .u64)) cells lv, Blk b7 (.cells #[.int .i64 Wd, .int .i64 Rr, .slice ac c0.length cc] 24 (0, 0)), Row ac c0.length cc 41 1 (u64s c0), Blk b3 (.cells #[.int .i64 Wd, .int .i64 Rr, .slice a n c] 24 (0, 0))] ∧ k ≤ nr)
      (fun k => [(2, .slice a2 lv.length c2), (3, ptr b3), (7, ptr b7), (8, .bool false), (38, .slice ar nr cr), (39, .int .i64 nr), (40, .int .i64 k)]) (fun k => nr - k) 0 ⟨hs, by omega⟩ ⟨rfl, rfl, rfl, rfl, rfl, rfl, rfl, trivial⟩ ?_
    rintro k w' ⟨hs, hk⟩ ih
    by_cases hlt : k < nr
    · obtain ⟨b, o, rfl⟩ := hrows.sl.addr (by omega)
      have hx : rows[k]? = some rows[k] := List.getElem?_eq_getElem (by omega)
      have hk64 := (hrows.sl.int hx rfl).2
      obtain ⟨r, hr⟩ : ∃ r, r = rows[k] := ⟨_, rfl⟩
      rw [← hr] at hx hk64
      simp only [inK] at hk64
      by_cases h6 : k = 6
      · subst h6
        repeat' (first
          | (apply JL_nil)
          | ((first | (apply JL_pure) | (apply JL_pure_on; exact rfl; (first | assumption | exact rfl | exact decide_eq_true (by first | assumption | omega) | exact decide_eq_false (by first | assumption | omega))) | (apply JD_f; exact rfl; exact hs; intro W hE hs) | (apply JD_f_on; exact rfl; exact rfl; (first | assumption | exact rfl | exact decide_eq_true (by first | assumption | omega) | exact decide_eq_false (by first | assumption | omega)); exact hs; intro W hE hs)); (first
      | (apply as_load; exact OpR_load_int (hrows.sl.st hs) rfl hx is_rfl)
      | (apply as_move; first | exact OpR_move rfl is_rfl)
      | (apply as_assign; first | exact OpR_assign rfl is_rfl)
      | (apply as_fieldAddr; first | exact OpR_fieldAddr0 rfl rfl is_rfl | exact OpR_fieldAddr rfl rfl is_rfl)
      | (apply as_load; first | exact OpR_load' hs rfl rfl is_rfl | exact OpR_load_agg' hs rfl is_rfl)
      | (apply as_add; first | exact OpR_addn rfl rfl (by omega) (by first | (simp only [Int.reduceAdd]; exact rfl) | exact rfl) is_rfl | exact OpR_ibin rfl rfl rfl is_rfl)
      | (apply as_binOp; first | exact OpR_ibin rfl rfl rfl is_rfl | exact OpR_beq rfl rfl is_rfl | exact OpR_bne rfl rfl is_rfl | exact OpR_eqNil rfl rfl is_rfl | exact OpR_neNil rfl rfl is_rfl)
      | (apply as_unOp; first | exact OpR_not rfl is_rfl)
      | (apply as_pick; first | exact OpR_pick_t rfl (by first | assumption | rfl | exact decide_eq_true (by first | assumption | omega) | exact decide_eq_false (by first | assumption | omega)) rfl is_rfl | exact OpR_pick_f rfl (by first | assumption | rfl | exact decide_eq_true (by first | assumption | omega) | exact decide_eq_false (by first | assumption | omega)) rfl is_rfl)
      | (apply as_b_len; first | exact OpR_len rfl is_rfl | exact OpR_len_str rfl is_rfl | exact OpR_len_arr rfl is_rfl)
      | (apply as_extract; first | exact OpR_extract rfl rfl is_rfl)
      | (apply as_indexAddr; first | exact OpR_indexAddr rfl rfl (by omega) (by omega) is_rfl | exact OpR_indexAddr_arr' rfl rfl (by omega) (by omega) (by first | (simp only [Int.reduceToNat, Nat.reduceMul, Nat.reduceAdd]; exact rfl) | exact rfl) is_rfl)
      | (apply as_build; first | exact OpR_build rfl (by (simp only [bld, placesOf, splice, Value.cells, List.take_succ_cons, List.take_zero, List.drop_succ_cons, List.drop_zero, List.cons_append, List.nil_append, List.length_cons, List.length_nil, List.getElem?_cons_zero, List.getElem?_cons_succ, Option.map_some, List.append_nil, Nat.reduceAdd, Nat.reduceMul, Nat.zero_add, Nat.reduceLeDiff, and_self, if_true, List.toList_toArray, Nat.le_refl, Nat.zero_mul, Nat.one_mul]; first | done | rfl)) is_rfl | exact OpR_build_arr rfl (by (simp only [bld, placesOf, splice, Value.cells, List.take_succ_cons, List.take_zero, List.drop_succ_cons, List.drop_zero, List.cons_append, List.nil_append, List.length_cons, List.length_nil, List.getElem?_cons_zero, List.getElem?_cons_succ, Option.map_some, List.append_nil, Nat.reduceAdd, Nat.reduceMul, Nat.zero_add, Nat.reduceLeDiff, and_self, if_true, List.toList_toArray, Nat.le_refl, Nat.zero_mul, Nat.one_mul]; first | done | rfl)) is_rfl)); first | (exact rfl; exact rfl) | exact rfl)
          | (apply J_seq)
          | (apply J_region)
          | (apply J_block)
          | (apply J_inBlock)
          | (apply aj_exit; refine J_exit rfl ?_)
          | (apply J_skip)
          | (apply al_none; (first | (refine JL_o (by apply as_box; exact OpR_box' hs rfl) rfl rfl ?_) | (refine JL_o (by apply as_alloc; exact OpR_alloc' hs) rfl rfl ?_)); rintro _ _ ⟨_, rfl, hb, hs, hE⟩)
          | (apply al_unit; refine JL_u (by apply as_store; exact OpR_store' hs rfl rfl rfl) rfl ?_; rintro _ _ ⟨hs, hF⟩)
          | (apply al_guard; first
    | (refine JL_no rfl (by first | assumption | rfl | exact decide_eq_true (by first | assumption | omega) | exact decide_eq_false (by first | assumption | omega)) rfl ?_)
    | (fail_if_success (apply JL_o_on rfl (by first | assumption | rfl | exact decide_eq_true (by first | assumption | omega) | exact decide_eq_false (by first | assumption | omega)))); first | (refine JL_split_dec rfl (fun _ => ?_) (fun _ => ?_)) | (refine JL_split rfl (fun _ => ?_) (fun _ => ?_)))
          | (apply aj_cond; first | refine J_dec_t rfl (by first | assumption | omega) ?_ | refine J_dec_f rfl (by first | assumption | omega) ?_ | refine J_cond_t rfl (by first | assumption | rfl | exact decide_eq_true (by first | assumption | omega) | exact decide_eq_false (by first | assumption | omega)) ?_ | refine J_cond_f rfl (by first | assumption | rfl | exact decide_eq_true (by first | assumption | omega) | exact decide_eq_false (by first | assumption | omega)) ?_ | (refine J_cond_dec rfl (fun _ => ?_) (fun _ => ?_)) | (refine J_cond rfl (fun _ => ?_) (fun _ => ?_)))
          | (apply aj_draw; first
    | (refine J_draw (id := 22) [0, 0, 3, 7, 0, 16, 0, 0, 192, 496, 1023, 2047, 4095] [(0, false), (1, false), (2, false), (3, false), (4, false), (5, false), (6, false), (7, false), (8, true), (9, true), (10, false)] [11, 12] mixed (by kernel_rfl) (by kernel_rfl) ?_; intro _ hE _; have hs := hs.ext hE)
    | (refine J_draw (id := 39) [0, 1, 0, 4, 0, 0, 60, 127, 255, 511] [(0, false), (1, false), (2, false), (4, false), (5, false), (3, true), (6, true), (7, true)] [8, 9] mixed (by kernel_rfl) (by kernel_rfl) ?_; intro _ hE _; have hs := hs.ext hE)
    | (refine J_draw (id := 44) [0, 0, 2, 7, 15] [(0, false), (1, false), (2, true), (3, true), (4, false)] [] mixed (by kernel_rfl) (by kernel_rfl) ?_; intro _ hE _; have hs := hs.ext hE))
          | (apply JD_done)
          | (apply JD_tail; case' hos => (simp only [List.map_cons, List.map_nil, List.getElem?_toArray, List.getElem?_cons_succ, List.getElem?_cons_zero]; repeat' (first | exact ms_nil | apply ms_cons)))
          | (refine JD_f_off rfl rfl (by first | assumption | rfl | exact decide_eq_true (by first | assumption | omega) | exact decide_eq_false (by first | assumption | omega)) rfl ?_)
          | (refine JD_c_off rfl rfl (by first | assumption | rfl | exact decide_eq_true (by first | assumption | omega) | exact decide_eq_false (by first | assumption | omega)) rfl ?_)
          | (refine JD_split_dec rfl rfl (fun _ => ?_) (fun _ => ?_))
          | (refine JD_split rfl rfl (fun _ => ?_) (fun _ => ?_)))
        refine J_leave Try.func3 rfl (.tmp rfl .nil) ⟨rfl, hs.frm.ext⟩
      · have hget : getM Wd Rr r c0 = (([] : List Int), 180) := by unfold getM; simp [hB]
        have hsw : doesM Wd Rr r c0.length 0 (Rr - 1) (swapW Wd Rr r c0) = (0, 0, ([] : List Int), 180) := by unfold doesM; simp [hB]
        have huv : U64 ([] : List Int) := u64_nil
        have hus : U64 ([] : List Int) := u64_nil
        have hvl60 : (([] : List Int)).length ≤ 60 := by simp
        have hsl60 : (([] : List Int)).length ≤ 1000 := by simp
        repeat' (first
          | ((apply al_none; refine JL_o (OpR_callF en14 rfl (get_r _ Wd Rr r ac c0.length cc c0 ((hs.row ac c0.length cc).wr hu0))) rfl rfl ?_; rw [hget]; rintro _ _ ⟨av, cv, rfl, hf⟩; dsimp only at hf ⊢; have hs : St _ _ _ [_, _, _, _, _, _] := hs.fresh hf))
          | ((apply al_none; refine JL_o (OpR_callF en15 rfl (swap_r _ Wd Rr r ac c0.length cc c0 ((hs.row ac c0.length cc).wr hu0))) rfl rfl ?_; rw [hsw]; rintro _ _ ⟨as_, cs_, rfl, hf⟩; dsimp only at hf ⊢; have hs : St _ _ _ [_, _, _, _, _, _, _] := hs.fresh hf))
          | ((refine JL_o_on rfl (by first | assumption | rfl | exact decide_eq_true (by first | assumption | omega) | exact decide_eq_false (by first | assumption | omega)) (OpR_callF en19 rfl (equal19_t _ _ _ _ _ _ _ ([] : List Int) ((hs.row av (([] : List Int)).length cv).wr huv) (wr_nil _))) rfl rfl ?_; rintro _ _ ⟨rfl, hE⟩; have hs := hs.ext hE))
          | ((refine JL_o_on rfl (by first | assumption | rfl | exact decide_eq_true (by first | assumption | omega) | exact decide_eq_false (by first | assumption | omega)) (OpR_callF en20 rfl (rsame_t _ _ _ _ _ _ _ _ _ _ _ ([] : List Int) _ ((hs.row as_ (([] : List Int)).length cs_).wr hus) (wr_nil _) ⟨rfl, rfl, rfl⟩)) rfl rfl ?_; rintro _ _ ⟨rfl, hE⟩; have hs := hs.ext hE))
          | ((apply al_none; have hs : St _ _ _ [_, _, _, _, _, _, _] := hs.sub (.cons _ (.cons _ (List.Sublist.refl _))); refine JL_o (OpR_callF en21 rfl (spoil_r _ _ _ as_ _ cs_ ([] : List Int) (St.held (A := [_]) hs) (by omega))) rfl rfl ?_; rintro _ _ ht; have hs : St _ _ _ [_, _, _, _, _, _] := St.take (A := [_]) (A' := []) hs ht; clear ht))
          | (apply JL_nil)
          | ((first | (apply JL_pure) | (apply JL_pure_on; exact rfl; (first | assumption | exact rfl | exact decide_eq_true (by first | assumption | omega) | exact decide_eq_false (by first | assumption | omega))) | (apply JD_f; exact rfl; exact hs; intro W hE hs) | (apply JD_f_on; exact rfl; exact rfl; (first | assumption | exact rfl | exact decide_eq_true (by first | assumption | omega) | exact decide_eq_false (by first | assumption | omega)); exact hs; intro W hE hs)); (first
      | (apply as_load; exact OpR_load_int (hrows.sl.st hs) rfl hx is_rfl)
      | (apply as_move; first | exact OpR_move rfl is_rfl)
      | (apply as_assign; first | exact OpR_assign rfl is_rfl)
      | (apply as_fieldAddr; first | exact OpR_fieldAddr0 rfl rfl is_rfl | exact OpR_fieldAddr rfl rfl is_rfl)
      | (apply as_load; first | exact OpR_load' hs rfl rfl is_rfl | exact OpR_load_agg' hs rfl is_rfl)
      | (apply as_add; first | exact OpR_addn rfl rfl (by omega) (by first | (simp only [Int.reduceAdd]; exact rfl) | exact rfl) is_rfl | exact OpR_ibin rfl rfl rfl is_rfl)
      | (apply as_binOp; first | exact OpR_ibin rfl rfl rfl is_rfl | exact OpR_beq rfl rfl is_rfl | exact OpR_bne rfl rfl is_rfl | exact OpR_eqNil rfl rfl is_rfl | exact OpR_neNil rfl rfl is_rfl)
      | (apply as_unOp; first | exact OpR_not rfl is_rfl)
      | (apply as_pick; first | exact OpR_pick_t rfl (by first | assumption | rfl | exact decide_eq_true (by first | assumption | omega) | exact decide_eq_false (by first | assumption | omega)) rfl is_rfl | exact OpR_pick_f rfl (by first | assumption | rfl | exact decide_eq_true (by first | assumption | omega) | exact decide_eq_false (by first | assumption | omega)) rfl is_rfl)
      | (apply as_b_len; first | exact OpR_len rfl is_rfl | exact OpR_len_str rfl is_rfl | exact OpR_len_arr rfl is_rfl)
      | (apply as_extract; first | exact OpR_extract rfl rfl is_rfl)
      | (apply as_indexAddr; first | exact OpR_indexAddr rfl rfl (by omega) (by omega) is_rfl | exact OpR_indexAddr_arr' rfl rfl (by omega) (by omega) (by first | (simp only [Int.reduceToNat, Nat.reduceMul, Nat.reduceAdd]; exact rfl) | exact rfl) is_rfl)
      | (apply as_build; first | exact OpR_build rfl (by (simp only [bld, placesOf, splice, Value.cells, List.take_succ_cons, List.take_zero, List.drop_succ_cons, List.drop_zero, List.cons_append, List.nil_append, List.length_cons, List.length_nil, List.getElem?_cons_zero, List.getElem?_cons_succ, Option.map_some, List.append_nil, Nat.reduceAdd, Nat.reduceMul, Nat.zero_add, Nat.reduceLeDiff, and_self, if_true, List.toList_toArray, Nat.le_refl, Nat.zero_mul, Nat.one_mul]; first | done | rfl)) is_rfl | exact OpR_build_arr rfl (by (simp only [bld, placesOf, splice, Value.cells, List.take_succ_cons, List.take_zero, List.drop_succ_cons, List.drop_zero, List.cons_append, List.nil_append, List.length_cons, List.length_nil, List.getElem?_cons_zero, List.getElem?_cons_succ, Option.map_some, List.append_nil, Nat.reduceAdd, Nat.reduceMul, Nat.zero_add, Nat.reduceLeDiff, and_self, if_true, List.toList_toArray, Nat.le_refl, Nat.zero_mul, Nat.one_mul]; first | done | rfl)) is_rfl)); first | (exact rfl; exact rfl) | exact rfl)
          | (apply J_seq)
          | (apply J_region)
          | (apply J_block)
          | (apply J_inBlock)
          | (apply aj_exit; refine J_exit rfl ?_)
          | (apply J_skip)
          | (apply al_none; (first | (refine JL_o (by apply as_box; exact OpR_box' hs rfl) rfl rfl ?_) | (refine JL_o (by apply as_alloc; exact OpR_alloc' hs) rfl rfl ?_)); rintro _ _ ⟨_, rfl, hb, hs, hE⟩)
          | (apply al_unit; refine JL_u (by apply as_store; exact OpR_store' hs rfl rfl rfl) rfl ?_; rintro _ _ ⟨hs, hF⟩)
          | (apply al_guard; first
    | (refine JL_no rfl (by first | assumption | rfl | exact decide_eq_true (by first | assumption | omega) | exact decide_eq_false (by first | assumption | omega)) rfl ?_)
    | (fail_if_success (apply JL_o_on rfl (by first | assumption | rfl | exact decide_eq_true (by first | assumption | omega) | exact decide_eq_false (by first | assumption | omega)))); first | (refine JL_split_dec rfl (fun _ => ?_) (fun _ => ?_)) | (refine JL_split rfl (fun _ => ?_) (fun _ => ?_)))
          | (apply aj_cond; first | refine J_dec_t rfl (by first | assumption | omega) ?_ | refine J_dec_f rfl (by first | assumption | omega) ?_ | refine J_cond_t rfl (by first | assumption | rfl | exact decide_eq_true (by first | assumption | omega) | exact decide_eq_false (by first | assumption | omega)) ?_ | refine J_cond_f rfl (by first | assumption | rfl | exact decide_eq_true (by first | assumption | omega) | exact decide_eq_false (by first | assumption | omega)) ?_ | (refine J_cond_dec rfl (fun _ => ?_) (fun _ => ?_)) | (refine J_cond rfl (fun _ => ?_) (fun _ => ?_)))
          | (apply aj_draw; first
    | (refine J_draw (id := 22) [0, 0, 3, 7, 0, 16, 0, 0, 192, 496, 1023, 2047, 4095] [(0, false), (1, false), (2, false), (3, false), (4, false), (5, false), (6, false), (7, false), (8, true), (9, true), (10, false)] [11, 12] mixed (by kernel_rfl) (by kernel_rfl) ?_; intro _ hE _; have hs := hs.ext hE)
    | (refine J_draw (id := 39) [0, 1, 0, 4, 0, 0, 60, 127, 255, 511] [(0, false), (1, false), (2, false), (4, false), (5, false), (3, true), (6, true), (7, true)] [8, 9] mixed (by kernel_rfl) (by kernel_rfl) ?_; intro _ hE _; have hs := hs.ext hE)
    | (refine J_draw (id := 44) [0, 0, 2, 7, 15] [(0, false), (1, false), (2, true), (3, true), (4, false)] [] mixed (by kernel_rfl) (by kernel_rfl) ?_; intro _ hE _; have hs := hs.ext hE))
          | (apply JD_done)
          | (apply JD_tail; case' hos => (simp only [List.map_cons, List.map_nil, List.getElem?_toArray, List.getElem?_cons_succ, List.getElem?_cons_zero]; repeat' (first | exact ms_nil | apply ms_cons)))
          | (refine JD_f_off rfl rfl (by first | assumption | rfl | exact decide_eq_true (by first | assumption | omega) | exact decide_eq_false (by first | assumption | omega)) rfl ?_)
          | (refine JD_c_off rfl rfl (by first | assumption | rfl | exact decide_eq_true (by first | assumption | omega) | exact decide_eq_false (by first | assumption | omega)) rfl ?_)
          | (refine JD_split_dec rfl rfl (fun _ => ?_) (fun _ => ?_))
          | (refine JD_split rfl rfl (fun _ => ?_) (fun _ => ?_)))
        refine J_loop (α := Nat × List Int) (fun g w' => St w NoF w' [Row av (([] : List Int)).length cv 41 1 (u64s g.2), Row a2 lv.length c2 31 1 cells, Dats Rl (tSl (tInt .u64)) cells lv, Blk b7 (.cells #[.int .i64 Wd, .int .i64 Rr, .slice ac c0.length cc] 24 (0, 0)), Row ac c0.length cc 41 1 (u64s c0), Blk b3 (.cells #[.int .i64 Wd, .int .i64 Rr, .slice a n c] 24 (0, 0))] ∧ g.1 ≤ (([] : List Int)).length ∧ g.2.length = (([] : List Int)).length)
          (fun g => [(2, .slice a2 lv.length c2), (3, ptr b3), (7, ptr b7), (8, .bool false), (38, .slice (some ⟨b, o, none⟩) nr cr), (39, .int .i64 nr), (40, .int .i64 k), (10, .int .i64 r), (17, .int .i64 180), (18, .bool false), (11, .slice av (([] : List Int)).length cv), (107, .int .i64 ((([] : List Int)).length : Nat)), (108, .int .i64 g.1)]) (fun g => (([] : List Int)).length - g.1) (0, ([] : List Int)) ⟨hs, by dsimp only; omega, rfl⟩ ⟨rfl, rfl, rfl, rfl, rfl, rfl, rfl, rfl, rfl, (by first | exact rfl | exact isv_f (by omega) | exact isv_t (by omega)), rfl, rfl, rfl, trivial⟩ ?_
        rintro ⟨j, xs⟩ w2 ⟨hs, hj, hjx⟩ ih1
        dsimp only at hs hj hjx ih1 ⊢
        by_cases hjl : j < (([] : List Int)).length
        · obtain ⟨b9, o9, rfl⟩ := (hs.row av (([] : List Int)).length cv).some (by omega)
          have hcell : (u64s xs)[j]? = some (.int .u64 xs[j]) := by rw [List.getElem?_map, List.getElem?_eq_getElem (by omega)]; rfl
          repeat' (first
            | ((apply al_unit; refine JL_u (by apply as_store; exact OpR_storeRow (b := b9) (o := o9) (i := j) (n := (([] : List Int)).length) (c := cv) hs rfl rfl rfl rfl hjl) rfl ?_; rintro _ _ ⟨hs, hF⟩))
            | (apply JL_nil)
            | ((first | (apply JL_pure) | (apply JL_pure_on; exact rfl; (first | assumption | exact rfl | exact decide_eq_true (by first | assumption | omega) | exact decide_eq_false (by first | assumption | omega))) | (apply JD_f; exact rfl; exact hs; intro W hE hs) | (apply JD_f_on; exact rfl; exact rfl; (first | assumption | exact rfl | exact decide_eq_true (by first | assumption | omega) | exact decide_eq_false (by first | assumption | omega)); exact hs; intro W hE hs)); (first
      | (apply as_load; exact OpR_loadRow (b := b9) (o := o9) (i := j) (n := (([] : List Int)).length) (c := cv) hs rfl hcell is_rfl)
      | (apply as_move; first | exact OpR_move rfl is_rfl)
      | (apply as_assign; first | exact OpR_assign rfl is_rfl)
      | (apply as_fieldAddr; first | exact OpR_fieldAddr0 rfl rfl is_rfl | exact OpR_fieldAddr rfl rfl is_rfl)
      | (apply as_load; first | exact OpR_load' hs rfl rfl is_rfl | exact OpR_load_agg' hs rfl is_rfl)
      | (apply as_add; first | exact OpR_addn rfl rfl (by omega) (by first | (simp only [Int.reduceAdd]; exact rfl) | exact rfl) is_rfl | exact OpR_ibin rfl rfl rfl is_rfl)
      | (apply as_binOp; first | exact OpR_ibin rfl rfl rfl is_rfl | exact OpR_beq rfl rfl is_rfl | exact OpR_bne rfl rfl is_rfl | exact OpR_eqNil rfl rfl is_rfl | exact OpR_neNil rfl rfl is_rfl)
      | (apply as_unOp; first | exact OpR_not rfl is_rfl)
      | (apply as_pick; first | exact OpR_pick_t rfl (by first | assumption | rfl | exact decide_eq_true (by first | assumption | omega) | exact decide_eq_false (by first | assumption | omega)) rfl is_rfl | exact OpR_pick_f rfl (by first | assumption | rfl | exact decide_eq_true (by first | assumption | omega) | exact decide_eq_false (by first | assumption | omega)) rfl is_rfl)
      | (apply as_b_len; first | exact OpR_len rfl is_rfl | exact OpR_len_str rfl is_rfl | exact OpR_len_arr rfl is_rfl)
      | (apply as_extract; first | exact OpR_extract rfl rfl is_rfl)
      | (apply as_indexAddr; first | exact OpR_indexAddr rfl rfl (by omega) (by omega) is_rfl | exact OpR_indexAddr_arr' rfl rfl (by omega) (by omega) (by first | (simp only [Int.reduceToNat, Nat.reduceMul, Nat.reduceAdd]; exact rfl) | exact rfl) is_rfl)
      | (apply as_build; first | exact OpR_build rfl (by (simp only [bld, placesOf, splice, Value.cells, List.take_succ_cons, List.take_zero, List.drop_succ_cons, List.drop_zero, List.cons_append, List.nil_append, List.length_cons, List.length_nil, List.getElem?_cons_zero, List.getElem?_cons_succ, Option.map_some, List.append_nil, Nat.reduceAdd, Nat.reduceMul, Nat.zero_add, Nat.reduceLeDiff, and_self, if_true, List.toList_toArray, Nat.le_refl, Nat.zero_mul, Nat.one_mul]; first | done | rfl)) is_rfl | exact OpR_build_arr rfl (by (simp only [bld, placesOf, splice, Value.cells, List.take_succ_cons, List.take_zero, List.drop_succ_cons, List.drop_zero, List.cons_append, List.nil_append, List.length_cons, List.length_nil, List.getElem?_cons_zero, List.getElem?_cons_succ, Option.map_some, List.append_nil, Nat.reduceAdd, Nat.reduceMul, Nat.zero_add, Nat.reduceLeDiff, and_self, if_true, List.toList_toArray, Nat.le_refl, Nat.zero_mul, Nat.one_mul]; first | done | rfl)) is_rfl)); first | (exact rfl; exact rfl) | exact rfl)
            | (apply J_seq)
            | (apply J_region)
            | (apply J_block)
            | (apply J_inBlock)
            | (apply aj_exit; refine J_exit rfl ?_)
            | (apply J_skip)
            | (apply al_none; (first | (refine JL_o (by apply as_box; exact OpR_box' hs rfl) rfl rfl ?_) | (refine JL_o (by apply as_alloc; exact OpR_alloc' hs) rfl rfl ?_)); rintro _ _ ⟨_, rfl, hb, hs, hE⟩)
            | (apply al_unit; refine JL_u (by apply as_store; exact OpR_store' hs rfl rfl rfl) rfl ?_; rintro _ _ ⟨hs, hF⟩)
            | (apply al_guard; first
    | (refine JL_no rfl (by first | assumption | rfl | exact decide_eq_true (by first | assumption | omega) | exact decide_eq_false (by first | assumption | omega)) rfl ?_)
    | (fail_if_success (apply JL_o_on rfl (by first | assumption | rfl | exact decide_eq_true (by first | assumption | omega) | exact decide_eq_false (by first | assumption | omega)))); first | (refine JL_split_dec rfl (fun _ => ?_) (fun _ => ?_)) | (refine JL_split rfl (fun _ => ?_) (fun _ => ?_)))
            | (apply aj_cond; first | refine J_dec_t rfl (by first | assumption | omega) ?_ | refine J_dec_f rfl (by first | assumption | omega) ?_ | refine J_cond_t rfl (by first | assumption | rfl | exact decide_eq_true (by first | assumption | omega) | exact decide_eq_false (by first | assumption | omega)) ?_ | refine J_cond_f rfl (by first | assumption | rfl | exact decide_eq_true (by first | assumption | omega) | exact decide_eq_false (by first | assumption | omega)) ?_ | (refine J_cond_dec rfl (fun _ => ?_) (fun _ => ?_)) | (refine J_cond rfl (fun _ => ?_) (fun _ => ?_)))
            | (apply aj_draw; first
    | (refine J_draw (id := 22) [0, 0, 3, 7, 0, 16, 0, 0, 192, 496, 1023, 2047, 4095] [(0, false), (1, false), (2, false), (3, false), (4, false), (5, false), (6, false), (7, false), (8, true), (9, true), (10, false)] [11, 12] mixed (by kernel_rfl) (by kernel_rfl) ?_; intro _ hE _; have hs := hs.ext hE)
    | (refine J_draw (id := 39) [0, 1, 0, 4, 0, 0, 60, 127, 255, 511] [(0, false), (1, false), (2, false), (4, false), (5, false), (3, true), (6, true), (7, true)] [8, 9] mixed (by kernel_rfl) (by kernel_rfl) ?_; intro _ hE _; have hs := hs.ext hE)
    | (refine J_draw (id := 44) [0, 0, 2, 7, 15] [(0, false), (1, false), (2, true), (3, true), (4, false)] [] mixed (by kernel_rfl) (by kernel_rfl) ?_; intro _ hE _; have hs := hs.ext hE))
            | (apply JD_done)
            | (apply JD_tail; case' hos => (simp only [List.map_cons, List.map_nil, List.getElem?_toArray, List.getElem?_cons_succ, List.getElem?_cons_zero]; repeat' (first | exact ms_nil | apply ms_cons)))
            | (refine JD_f_off rfl rfl (by first | assumption | rfl | exact decide_eq_true (by first | assumption | omega) | exact decide_eq_false (by first | assumption | omega)) rfl ?_)
            | (refine JD_c_off rfl rfl (by first | assumption | rfl | exact decide_eq_true (by first | assumption | omega) | exact decide_eq_false (by first | assumption | omega)) rfl ?_)
            | (refine JD_split_dec rfl rfl (fun _ => ?_) (fun _ => ?_))
            | (refine JD_split rfl rfl (fun _ => ?_) (fun _ => ?_)))
          refine J.to (ih1 (j + 1, xs.set j _) _ ⟨by dsimp only; rw [u64s_set]; exact hs, by dsimp only; omega, by simpa using hjx⟩ (by dsimp only; omega)) ⟨rfl, rfl, rfl, rfl, rfl, rfl, rfl, rfl, rfl, (by first | exact rfl | exact isv_f (by omega) | exact isv_t (by omega)), rfl, rfl, rfl, trivial⟩
        · repeat' (first
            | (apply JL_nil)
            | ((first | (apply JL_pure) | (apply JL_pure_on; exact rfl; (first | assumption | exact rfl | exact decide_eq_true (by first | assumption | omega) | exact decide_eq_false (by first | assumption | omega))) | (apply JD_f; exact rfl; exact hs; intro W hE hs) | (apply JD_f_on; exact rfl; exact rfl; (first | assumption | exact rfl | exact decide_eq_true (by first | assumption | omega) | exact decide_eq_false (by first | assumption | omega)); exact hs; intro W hE hs)); (first
      | (apply as_move; first | exact OpR_move rfl is_rfl)
      | (apply as_assign; first | exact OpR_assign rfl is_rfl)
      | (apply as_fieldAddr; first | exact OpR_fieldAddr0 rfl rfl is_rfl | exact OpR_fieldAddr rfl rfl is_rfl)
      | (apply as_load; first | exact OpR_load' hs rfl rfl is_rfl | exact OpR_load_agg' hs rfl is_rfl)
      | (apply as_add; first | exact OpR_addn rfl rfl (by omega) (by first | (simp only [Int.reduceAdd]; exact rfl) | exact rfl) is_rfl | exact OpR_ibin rfl rfl rfl is_rfl)
      | (apply as_binOp; first | exact OpR_ibin rfl rfl rfl is_rfl | exact OpR_beq rfl rfl is_rfl | exact OpR_bne rfl rfl is_rfl | exact OpR_eqNil rfl rfl is_rfl | exact OpR_neNil rfl rfl is_rfl)
      | (apply as_unOp; first | exact OpR_not rfl is_rfl)
      | (apply as_pick; first | exact OpR_pick_t rfl (by first | assumption | rfl | exact decide_eq_true (by first | assumption | omega) | exact decide_eq_false (by first | assumption | omega)) rfl is_rfl | exact OpR_pick_f rfl (by first | assumption | rfl | exact decide_eq_true (by first | assumption | omega) | exact decide_eq_false (by first | assumption | omega)) rfl is_rfl)
      | (apply as_b_len; first | exact OpR_len rfl is_rfl | exact OpR_len_str rfl is_rfl | exact OpR_len_arr rfl is_rfl)
      | (apply as_extract; first | exact OpR_extract rfl rfl is_rfl)
      | (apply as_indexAddr; first | exact OpR_indexAddr rfl rfl (by omega) (by omega) is_rfl | exact OpR_indexAddr_arr' rfl rfl (by omega) (by omega) (by first | (simp only [Int.reduceToNat, Nat.reduceMul, Nat.reduceAdd]; exact rfl) | exact rfl) is_rfl)
      | (apply as_build; first | exact OpR_build rfl (by (simp only [bld, placesOf, splice, Value.cells, List.take_succ_cons, List.take_zero, List.drop_succ_cons, List.drop_zero, List.cons_append, List.nil_append, List.length_cons, List.length_nil, List.getElem?_cons_zero, List.getElem?_cons_succ, Option.map_some, List.append_nil, Nat.reduceAdd, Nat.reduceMul, Nat.zero_add, Nat.reduceLeDiff, and_self, if_true, List.toList_toArray, Nat.le_refl, Nat.zero_mul, Nat.one_mul]; first | done | rfl)) is_rfl | exact OpR_build_arr rfl (by (simp only [bld, placesOf, splice, Value.cells, List.take_succ_cons, List.take_zero, List.drop_succ_cons, List.drop_zero, List.cons_append, List.nil_append, List.length_cons, List.length_nil, List.getElem?_cons_zero, List.getElem?_cons_succ, Option.map_some, List.append_nil, Nat.reduceAdd, Nat.reduceMul, Nat.zero_add, Nat.reduceLeDiff, and_self, if_true, List.toList_toArray, Nat.le_refl, Nat.zero_mul, Nat.one_mul]; first | done | rfl)) is_rfl)); first | (exact rfl; exact rfl) | exact rfl)
            | (apply J_seq)
            | (apply J_region)
            | (apply J_block)
            | (apply J_inBlock)
            | (apply aj_exit; refine J_exit rfl ?_)
            | (apply J_skip)
            | (apply al_none; (first | (refine JL_o (by apply as_box; exact OpR_box' hs rfl) rfl rfl ?_) | (refine JL_o (by apply as_alloc; exact OpR_alloc' hs) rfl rfl ?_)); rintro _ _ ⟨_, rfl, hb, hs, hE⟩)
            | (apply al_unit; refine JL_u (by apply as_store; exact OpR_store' hs rfl rfl rfl) rfl ?_; rintro _ _ ⟨hs, hF⟩)
            | (apply al_guard; first
    | (refine JL_no rfl (by first | assumption | rfl | exact decide_eq_true (by first | assumption | omega) | exact decide_eq_false (by first | assumption | omega)) rfl ?_)
    | (fail_if_success (apply JL_o_on rfl (by first | assumption | rfl | exact decide_eq_true (by first | assumption | omega) | exact decide_eq_false (by first | assumption | omega)))); first | (refine JL_split_dec rfl (fun _ => ?_) (fun _ => ?_)) | (refine JL_split rfl (fun _ => ?_) (fun _ => ?_)))
            | (apply aj_cond; first | refine J_dec_t rfl (by first | assumption | omega) ?_ | refine J_dec_f rfl (by first | assumption | omega) ?_ | refine J_cond_t rfl (by first | assumption | rfl | exact decide_eq_true (by first | assumption | omega) | exact decide_eq_false (by first | assumption | omega)) ?_ | refine J_cond_f rfl (by first | assumption | rfl | exact decide_eq_true (by first | assumption | omega) | exact decide_eq_false (by first | assumption | omega)) ?_ | (refine J_cond_dec rfl (fun _ => ?_) (fun _ => ?_)) | (refine J_cond rfl (fun _ => ?_) (fun _ => ?_)))
            | (apply aj_draw; first
    | (refine J_draw (id := 22) [0, 0, 3, 7, 0, 16, 0, 0, 192, 496, 1023, 2047, 4095] [(0, false), (1, false), (2, false), (3, false), (4, false), (5, false), (6, false), (7, false), (8, true), (9, true), (10, false)] [11, 12] mixed (by kernel_rfl) (by kernel_rfl) ?_; intro _ hE _; have hs := hs.ext hE)
    | (refine J_draw (id := 39) [0, 1, 0, 4, 0, 0, 60, 127, 255, 511] [(0, false), (1, false), (2, false), (4, false), (5, false), (3, true), (6, true), (7, true)] [8, 9] mixed (by kernel_rfl) (by kernel_rfl) ?_; intro _ hE _; have hs := hs.ext hE)
    | (refine J_draw (id := 44) [0, 0, 2, 7, 15] [(0, false), (1, false), (2, true), (3, true), (4, false)] [] mixed (by kernel_rfl) (by kernel_rfl) ?_; intro _ hE _; have hs := hs.ext hE))
            | (apply JD_done)
            | (apply JD_tail; case' hos => (simp only [List.map_cons, List.map_nil, List.getElem?_toArray, List.getElem?_cons_succ, List.getElem?_cons_zero]; repeat' (first | exact ms_nil | apply ms_cons)))
            | (refine JD_f_off rfl rfl (by first | assumption | rfl | exact decide_eq_true (by first | assumption | omega) | exact decide_eq_false (by first | assumption | omega)) rfl ?_)
            | (refine JD_c_off rfl rfl (by first | assumption | rfl | exact decide_eq_true (by first | assumption | omega) | exact decide_eq_false (by first | assumption | omega)) rfl ?_)
            | (refine JD_split_dec rfl rfl (fun _ => ?_) (fun _ => ?_))
            | (refine JD_split rfl rfl (fun _ => ?_) (fun _ => ?_)))
          have hs : St w NoF _ [_, _, _, _, _] := hs.sub (.cons _ (List.Sublist.refl _))
          refine J_loop (α := Nat) (fun k w' => St w NoF w' [Row a2 lv.length c2 31 1 cells, Dats Rl (tSl (tInt .u64)) cells lv, Blk b7 (.cells #[.int .i64 Wd, .int .i64 Rr, .slice ac c0.length cc] 24 (0, 0)), Row ac c0.length cc 41 1 (u64s c0), Blk b3 (.cells #[.int .i64 Wd, .int .i64 Rr, .slice a n c] 24 (0, 0))] ∧ k ≤ lv.length)
            (fun k2 => [(2, .slice a2 lv.length c2), (3, ptr b3), (7, ptr b7), (8, .bool false), (38, .slice (some ⟨b, o, none⟩) nr cr), (39, .int .i64 nr), (40, .int .i64 k), (10, .int .i64 r), (17, .int .i64 180), (18, .bool false), (118, .slice a2 lv.length c2), (119, .int .i64 lv.length), (120, .int .i64 k2)]) (fun k => lv.length - k) 0 ⟨hs, by omega⟩ ⟨rfl, rfl, rfl, rfl, rfl, rfl, rfl, rfl, rfl, (by first | exact rfl | exact isv_f (by omega) | exact isv_t (by omega)), rfl, rfl, rfl, trivial⟩ ?_
          rintro k2 w3 ⟨hs, hk2⟩ ih2
          by_cases hkl : k2 < lv.length
          · obtain ⟨b8, o8, rfl⟩ := (hs.row a2 lv.length c2).some (by omega)
            have hxv : lv[k2]? = some lv[k2] := List.getElem?_eq_getElem (by omega)
            obtain ⟨vs, hvs⟩ : ∃ vs, vs = lv[k2] := ⟨_, rfl⟩
            rw [← hvs] at hxv
            obtain ⟨ap, np, cp, hcp⟩ := DatsV.cell (hs.all (Dats Rl (tSl (tInt .u64)) cells lv) (.tail _ (.head _))) hxv
            have hvp := DatsV.wr (hs.all (Dats Rl (tSl (tInt .u64)) cells lv) (.tail _ (.head _))) hcp hxv
            have hnp := hvp.len
            have huvs := hvp.u64
            have hset : setM Wd Rr r c0 vs = (0, 0, ([] : List Int), 180) := by unfold setM doesM; simp [hB]
            have hun : U64 ([] : List Int) := u64_nil
            have hnl : ([] : List Int).length ≤ 1000 := by simp
            repeat' (first
              | ((apply al_none; refine JL_o (OpR_callF en22 rfl (set_r _ Wd Rr r ac ap c0.length cc np cp c0 vs ((hs.row ac c0.length cc).wr hu0) (DatsV.wr (hs.all (Dats Rl (tSl (tInt .u64)) cells lv) (.tail _ (.head _))) hcp hxv))) rfl rfl ?_; rw [hset]; rintro _ _ ⟨an, cn, rfl, hf⟩; dsimp only at hf ⊢; have hs : St _ _ _ [_, _, _, _, _, _] := hs.fresh hf))
              | ((refine JL_o_on rfl (by first | assumption | rfl | exact decide_eq_true (by first | assumption | omega) | exact decide_eq_false (by first | assumption | omega)) (OpR_callF en20 rfl (rsame_t _ _ _ _ _ _ _ _ _ _ _ ([] : List Int) _ ((hs.row an (([] : List Int)).length cn).wr hun) (wr_nil _) ⟨rfl, rfl, rfl⟩)) rfl rfl ?_; rintro _ _ ⟨rfl, hE⟩; have hs := hs.ext hE))
              | ((apply al_none; have hs : St _ _ _ [_, _, _, _, _, _] := hs.sub (.cons _ (.cons _ (List.Sublist.refl _))); refine JL_o (OpR_callF en21 rfl (spoil_r _ _ _ an _ cn ([] : List Int) (St.held (A := [_]) hs) (by omega))) rfl rfl ?_; rintro _ _ ht; have hs : St _ _ _ [_, _, _, _, _] := St.take (A := [_]) (A' := []) hs ht; clear ht))
              | (apply JL_nil)
              | ((first | (apply JL_pure) | (apply JL_pure_on; exact rfl; (first | assumption | exact rfl | exact decide_eq_true (by first | assumption | omega) | exact decide_eq_false (by first | assumption | omega))) | (apply JD_f; exact rfl; exact hs; intro W hE hs) | (apply JD_f_on; exact rfl; exact rfl; (first | assumption | exact rfl | exact decide_eq_true (by first | assumption | omega) | exact decide_eq_false (by first | assumption | omega)); exact hs; intro W hE hs)); (first
      | (apply as_load; exact OpR_loadRow (b := b8) (o := o8) (i := k2) (n := lv.length) (c := c2) hs rfl hcp is_rfl)
      | (apply as_move; first | exact OpR_move rfl is_rfl)
      | (apply as_assign; first | exact OpR_assign rfl is_rfl)
      | (apply as_fieldAddr; first | exact OpR_fieldAddr0 rfl rfl is_rfl | exact OpR_fieldAddr rfl rfl is_rfl)
      | (apply as_load; first | exact OpR_load' hs rfl rfl is_rfl | exact OpR_load_agg' hs rfl is_rfl)
      | (apply as_add; first | exact OpR_addn rfl rfl (by omega) (by first | (simp only [Int.reduceAdd]; exact rfl) | exact rfl) is_rfl | exact OpR_ibin rfl rfl rfl is_rfl)
      | (apply as_binOp; first | exact OpR_ibin rfl rfl rfl is_rfl | exact OpR_beq rfl rfl is_rfl | exact OpR_bne rfl rfl is_rfl | exact OpR_eqNil rfl rfl is_rfl | exact OpR_neNil rfl rfl is_rfl)
      | (apply as_unOp; first | exact OpR_not rfl is_rfl)
      | (apply as_pick; first | exact OpR_pick_t rfl (by first | assumption | rfl | exact decide_eq_true (by first | assumption | omega) | exact decide_eq_false (by first | assumption | omega)) rfl is_rfl | exact OpR_pick_f rfl (by first | assumption | rfl | exact decide_eq_true (by first | assumption | omega) | exact decide_eq_false (by first | assumption | omega)) rfl is_rfl)
      | (apply as_b_len; first | exact OpR_len rfl is_rfl | exact OpR_len_str rfl is_rfl | exact OpR_len_arr rfl is_rfl)
      | (apply as_extract; first | exact OpR_extract rfl rfl is_rfl)
      | (apply as_indexAddr; first | exact OpR_indexAddr rfl rfl (by omega) (by omega) is_rfl | exact OpR_indexAddr_arr' rfl rfl (by omega) (by omega) (by first | (simp only [Int.reduceToNat, Nat.reduceMul, Nat.reduceAdd]; exact rfl) | exact rfl) is_rfl)
      | (apply as_build; first | exact OpR_build rfl (by (simp only [bld, placesOf, splice, Value.cells, List.take_succ_cons, List.take_zero, List.drop_succ_cons, List.drop_zero, List.cons_append, List.nil_append, List.length_cons, List.length_nil, List.getElem?_cons_zero, List.getElem?_cons_succ, Option.map_some, List.append_nil, Nat.reduceAdd, Nat.reduceMul, Nat.zero_add, Nat.reduceLeDiff, and_self, if_true, List.toList_toArray, Nat.le_refl, Nat.zero_mul, Nat.one_mul]; first | done | rfl)) is_rfl | exact OpR_build_arr rfl (by (simp only [bld, placesOf, splice, Value.cells, List.take_succ_cons, List.take_zero, List.drop_succ_cons, List.drop_zero, List.cons_append, List.nil_append, List.length_cons, List.length_nil, List.getElem?_cons_zero, List.getElem?_cons_succ, Option.map_some, List.append_nil, Nat.reduceAdd, Nat.reduceMul, Nat.zero_add, Nat.reduceLeDiff, and_self, if_true, List.toList_toArray, Nat.le_refl, Nat.zero_mul, Nat.one_mul]; first | done | rfl)) is_rfl)); first | (exact rfl; exact rfl) | exact rfl)
              | (apply J_seq)
              | (apply J_region)
              | (apply J_block)
              | (apply J_inBlock)
              | (apply aj_exit; refine J_exit rfl ?_)
              | (apply J_skip)
              | (apply al_none; (first | (refine JL_o (by apply as_box; exact OpR_box' hs rfl) rfl rfl ?_) | (refine JL_o (by apply as_alloc; exact OpR_alloc' hs) rfl rfl ?_)); rintro _ _ ⟨_, rfl, hb, hs, hE⟩)
              | (apply al_unit; refine JL_u (by apply as_store; exact OpR_store' hs rfl rfl rfl) rfl ?_; rintro _ _ ⟨hs, hF⟩)
              | (apply al_guard; first
    | (refine JL_no rfl (by first | assumption | rfl | exact decide_eq_true (by first | assumption | omega) | exact decide_eq_false (by first | assumption | omega)) rfl ?_)
    | (fail_if_success (apply JL_o_on rfl (by first | assumption | rfl | exact decide_eq_true (by first | assumption | omega) | exact decide_eq_false (by first | assumption | omega)))); first | (refine JL_split_dec rfl (fun _ => ?_) (fun _ => ?_)) | (refine JL_split rfl (fun _ => ?_) (fun _ => ?_)))
              | (apply aj_cond; first | refine J_dec_t rfl (by first | assumption | omega) ?_ | refine J_dec_f rfl (by first | assumption | omega) ?_ | refine J_cond_t rfl (by first | assumption | rfl | exact decide_eq_true (by first | assumption | omega) | exact decide_eq_false (by first | assumption | omega)) ?_ | refine J_cond_f rfl (by first | assumption | rfl | exact decide_eq_true (by first | assumption | omega) | exact decide_eq_false (by first | assumption | omega)) ?_ | (refine J_cond_dec rfl (fun _ => ?_) (fun _ => ?_)) | (refine J_cond rfl (fun _ => ?_) (fun _ => ?_)))
              | (apply aj_draw; first
    | (refine J_draw (id := 22) [0, 0, 3, 7, 0, 16, 0, 0, 192, 496, 1023, 2047, 4095] [(0, false), (1, false), (2, false), (3, false), (4, false), (5, false), (6, false), (7, false), (8, true), (9, true), (10, false)] [11, 12] mixed (by kernel_rfl) (by kernel_rfl) ?_; intro _ hE _; have hs := hs.ext hE)
    | (refine J_draw (id := 39) [0, 1, 0, 4, 0, 0, 60, 127, 255, 511] [(0, false), (1, false), (2, false), (4, false), (5, false), (3, true), (6, true), (7, true)] [8, 9] mixed (by kernel_rfl) (by kernel_rfl) ?_; intro _ hE _; have hs := hs.ext hE)
    | (refine J_draw (id := 44) [0, 0, 2, 7, 15] [(0, false), (1, false), (2, true), (3, true), (4, false)] [] mixed (by kernel_rfl) (by kernel_rfl) ?_; intro _ hE _; have hs := hs.ext hE))
              | (apply JD_done)
              | (apply JD_tail; case' hos => (simp only [List.map_cons, List.map_nil, List.getElem?_toArray, List.getElem?_cons_succ, List.getElem?_cons_zero]; repeat' (first | exact ms_nil | apply ms_cons)))
              | (refine JD_f_off rfl rfl (by first | assumption | rfl | exact decide_eq_true (by first | assumption | omega) | exact decide_eq_false (by first | assumption | omega)) rfl ?_)
              | (refine JD_c_off rfl rfl (by first | assumption | rfl | exact decide_eq_true (by first | assumption | omega) | exact decide_eq_false (by first | assumption | omega)) rfl ?_)
              | (refine JD_split_dec rfl rfl (fun _ => ?_) (fun _ => ?_))
              | (refine JD_split rfl rfl (fun _ => ?_) (fun _ => ?_)))
            refine J.to (ih2 (k2 + 1) _ ⟨hs, by omega⟩ (by omega)) ⟨rfl, rfl, rfl, rfl, rfl, rfl, rfl, rfl, rfl, (by first | exact rfl | exact isv_f (by omega) | exact isv_t (by omega)), rfl, rfl, rfl, trivial⟩
          · repeat' (first
              | ((refine JD_c rfl (OpR_callF en10 rfl (own_r _ Wd Rr a n c ws (h.st hs))) (fun _ _ ⟨_, _, _, h⟩ => h.ext) rfl ?_; rw [← hc0]; rintro _ _ ⟨ao, co, rfl, hf⟩; have hs : St _ _ _ [_, _, _, _, _, _] := hs.fresh hf))
              | ((refine JD_c rfl (OpR_callF en20 rfl (rsame_t _ _ _ _ _ _ _ _ _ _ _ c0 c0 ((hs.row ac c0.length cc).wr hu0) ((hs.row ao c0.length co).wr hu0) ⟨rfl, rfl, rfl⟩)) (fun _ _ h => h.2) rfl ?_; rintro _ _ ⟨rfl, hE⟩; have hs := hs.ext hE))
              | (apply JL_nil)
              | ((first | (apply JL_pure) | (apply JL_pure_on; exact rfl; (first | assumption | exact rfl | exact decide_eq_true (by first | assumption | omega) | exact decide_eq_false (by first | assumption | omega))) | (apply JD_f; exact rfl; exact hs; intro W hE hs) | (apply JD_f_on; exact rfl; exact rfl; (first | assumption | exact rfl | exact decide_eq_true (by first | assumption | omega) | exact decide_eq_false (by first | assumption | omega)); exact hs; intro W hE hs)); (first
      | (apply as_move; first | exact OpR_move rfl is_rfl)
      | (apply as_assign; first | exact OpR_assign rfl is_rfl)
      | (apply as_fieldAddr; first | exact OpR_fieldAddr0 rfl rfl is_rfl | exact OpR_fieldAddr rfl rfl is_rfl)
      | (apply as_load; first | exact OpR_load' hs rfl rfl is_rfl | exact OpR_load_agg' hs rfl is_rfl)
      | (apply as_add; first | exact OpR_addn rfl rfl (by omega) (by first | (simp only [Int.reduceAdd]; exact rfl) | exact rfl) is_rfl | exact OpR_ibin rfl rfl rfl is_rfl)
      | (apply as_binOp; first | exact OpR_ibin rfl rfl rfl is_rfl | exact OpR_beq rfl rfl is_rfl | exact OpR_bne rfl rfl is_rfl | exact OpR_eqNil rfl rfl is_rfl | exact OpR_neNil rfl rfl is_rfl)
      | (apply as_unOp; first | exact OpR_not rfl is_rfl)
      | (apply as_pick; first | exact OpR_pick_t rfl (by first | assumption | rfl | exact decide_eq_true (by first | assumption | omega) | exact decide_eq_false (by first | assumption | omega)) rfl is_rfl | exact OpR_pick_f rfl (by first | assumption | rfl | exact decide_eq_true (by first | assumption | omega) | exact decide_eq_false (by first | assumption | omega)) rfl is_rfl)
      | (apply as_b_len; first | exact OpR_len rfl is_rfl | exact OpR_len_str rfl is_rfl | exact OpR_len_arr rfl is_rfl)
      | (apply as_extract; first | exact OpR_extract rfl rfl is_rfl)
      | (apply as_indexAddr; first | exact OpR_indexAddr rfl rfl (by omega) (by omega) is_rfl | exact OpR_indexAddr_arr' rfl rfl (by omega) (by omega) (by first | (simp only [Int.reduceToNat, Nat.reduceMul, Nat.reduceAdd]; exact rfl) | exact rfl) is_rfl)
      | (apply as_build; first | exact OpR_build rfl (by (simp only [bld, placesOf, splice, Value.cells, List.take_succ_cons, List.take_zero, List.drop_succ_cons, List.drop_zero, List.cons_append, List.nil_append, List.length_cons, List.length_nil, List.getElem?_cons_zero, List.getElem?_cons_succ, Option.map_some, List.append_nil, Nat.reduceAdd, Nat.reduceMul, Nat.zero_add, Nat.reduceLeDiff, and_self, if_true, List.toList_toArray, Nat.le_refl, Nat.zero_mul, Nat.one_mul]; first | done | rfl)) is_rfl | exact OpR_build_arr rfl (by (simp only [bld, placesOf, splice, Value.cells, List.take_succ_cons, List.take_zero, List.drop_succ_cons, List.drop_zero, List.cons_append, List.nil_append, List.length_cons, List.length_nil, List.getElem?_cons_zero, List.getElem?_cons_succ, Option.map_some, List.append_nil, Nat.reduceAdd, Nat.reduceMul, Nat.zero_add, Nat.reduceLeDiff, and_self, if_true, List.toList_toArray, Nat.le_refl, Nat.zero_mul, Nat.one_mul]; first | done | rfl)) is_rfl)); first | (exact rfl; exact rfl) | exact rfl)
              | (apply J_seq)
              | (apply J_region)
              | (apply J_block)
              | (apply J_inBlock)
              | (apply aj_exit; refine J_exit rfl ?_)
              | (apply J_skip)
              | (apply al_none; (first | (refine JL_o (by apply as_box; exact OpR_box' hs rfl) rfl rfl ?_) | (refine JL_o (by apply as_alloc; exact OpR_alloc' hs) rfl rfl ?_)); rintro _ _ ⟨_, rfl, hb, hs, hE⟩)
              | (apply al_unit; refine JL_u (by apply as_store; exact OpR_store' hs rfl rfl rfl) rfl ?_; rintro _ _ ⟨hs, hF⟩)
              | (apply al_guard; first
    | (refine JL_no rfl (by first | assumption | rfl | exact decide_eq_true (by first | assumption | omega) | exact decide_eq_false (by first | assumption | omega)) rfl ?_)
    | (fail_if_success (apply JL_o_on rfl (by first | assumption | rfl | exact decide_eq_true (by first | assumption | omega) | exact decide_eq_false (by first | assumption | omega)))); first | (refine JL_split_dec rfl (fun _ => ?_) (fun _ => ?_)) | (refine JL_split rfl (fun _ => ?_) (fun _ => ?_)))
              | (apply aj_cond; first | refine J_dec_t rfl (by first | assumption | omega) ?_ | refine J_dec_f rfl (by first | assumption | omega) ?_ | refine J_cond_t rfl (by first | assumption | rfl | exact decide_eq_true (by first | assumption | omega) | exact decide_eq_false (by first | assumption | omega)) ?_ | refine J_cond_f rfl (by first | assumption | rfl | exact decide_eq_true (by first | assumption | omega) | exact decide_eq_false (by first | assumption | omega)) ?_ | (refine J_cond_dec rfl (fun _ => ?_) (fun _ => ?_)) | (refine J_cond rfl (fun _ => ?_) (fun _ => ?_)))
              | (apply aj_draw; first
    | (refine J_draw (id := 22) [0, 0, 3, 7, 0, 16, 0, 0, 192, 496, 1023, 2047, 4095] [(0, false), (1, false), (2, false), (3, false), (4, false), (5, false), (6, false), (7, false), (8, true), (9, true), (10, false)] [11, 12] mixed (by kernel_rfl) (by kernel_rfl) ?_; intro _ hE _; have hs := hs.ext hE)
    | (refine J_draw (id := 39) [0, 1, 0, 4, 0, 0, 60, 127, 255, 511] [(0, false), (1, false), (2, false), (4, false), (5, false), (3, true), (6, true), (7, true)] [8, 9] mixed (by kernel_rfl) (by kernel_rfl) ?_; intro _ hE _; have hs := hs.ext hE)
    | (refine J_draw (id := 44) [0, 0, 2, 7, 15] [(0, false), (1, false), (2, true), (3, true), (4, false)] [] mixed (by kernel_rfl) (by kernel_rfl) ?_; intro _ hE _; have hs := hs.ext hE))
              | (apply JD_done)
              | (apply JD_tail; case' hos => (simp only [List.map_cons, List.map_nil, List.getElem?_toArray, List.getElem?_cons_succ, List.getElem?_cons_zero]; repeat' (first | exact ms_nil | apply ms_cons)))
              | (refine JD_f_off rfl rfl (by first | assumption | rfl | exact decide_eq_true (by first | assumption | omega) | exact decide_eq_false (by first | assumption | omega)) rfl ?_)
              | (refine JD_c_off rfl rfl (by first | assumption | rfl | exact decide_eq_true (by first | assumption | omega) | exact decide_eq_false (by first | assumption | omega)) rfl ?_)
              | (refine JD_split_dec rfl rfl (fun _ => ?_) (fun _ => ?_))
              | (refine JD_split rfl rfl (fun _ => ?_) (fun _ => ?_)))
            have hs : St w NoF _ [_, _, _, _, _] := hs.sub (.cons _ (List.Sublist.refl _))
            refine J.to (ih (k + 1) _ ⟨hs, by omega⟩ (by omega)) ⟨rfl, rfl, rfl, rfl, rfl, rfl, rfl, trivial⟩
    · repeat' (first
        | (apply JL_nil)
        | ((first | (apply JL_pure) | (apply JL_pure_on; exact rfl; (first | assumption | exact rfl | exact decide_eq_true (by first | assumption | omega) | exact decide_eq_false (by first | assumption | omega))) | (apply JD_f; exact rfl; exact hs; intro W hE hs) | (apply JD_f_on; exact rfl; exact rfl; (first | assumption | exact rfl | exact decide_eq_true (by first | assumption | omega) | exact decide_eq_false (by first | assumption | omega)); exact hs; intro W hE hs)); (first
      | (apply as_move; first | exact OpR_move rfl is_rfl)
      | (apply as_assign; first | exact OpR_assign rfl is_rfl)
      | (apply as_fieldAddr; first | exact OpR_fieldAddr0 rfl rfl is_rfl | exact OpR_fieldAddr rfl rfl is_rfl)
      | (apply as_load; first | exact OpR_load' hs rfl rfl is_rfl | exact OpR_load_agg' hs rfl is_rfl)
      | (apply as_add; first | exact OpR_addn rfl rfl (by omega) (by first | (simp only [Int.reduceAdd]; exact rfl) | exact rfl) is_rfl | exact OpR_ibin rfl rfl rfl is_rfl)
      | (apply as_binOp; first | exact OpR_ibin rfl rfl rfl is_rfl | exact OpR_beq rfl rfl is_rfl | exact OpR_bne rfl rfl is_rfl | exact OpR_eqNil rfl rfl is_rfl | exact OpR_neNil rfl rfl is_rfl)
      | (apply as_unOp; first | exact OpR_not rfl is_rfl)
      | (apply as_pick; first | exact OpR_pick_t rfl (by first | assumption | rfl | exact decide_eq_true (by first | assumption | omega) | exact decide_eq_false (by first | assumption | omega)) rfl is_rfl | exact OpR_pick_f rfl (by first | assumption | rfl | exact decide_eq_true (by first | assumption | omega) | exact decide_eq_false (by first | assumption | omega)) rfl is_rfl)
      | (apply as_b_len; first | exact OpR_len rfl is_rfl | exact OpR_len_str rfl is_rfl | exact OpR_len_arr rfl is_rfl)
      | (apply as_extract; first | exact OpR_extract rfl rfl is_rfl)
      | (apply as_indexAddr; first | exact OpR_indexAddr rfl rfl (by omega) (by omega) is_rfl | exact OpR_indexAddr_arr' rfl rfl (by omega) (by omega) (by first | (simp only [Int.reduceToNat, Nat.reduceMul, Nat.reduceAdd]; exact rfl) | exact rfl) is_rfl)
      | (apply as_build; first | exact OpR_build rfl (by (simp only [bld, placesOf, splice, Value.cells, List.take_succ_cons, List.take_zero, List.drop_succ_cons, List.drop_zero, List.cons_append, List.nil_append, List.length_cons, List.length_nil, List.getElem?_cons_zero, List.getElem?_cons_succ, Option.map_some, List.append_nil, Nat.reduceAdd, Nat.reduceMul, Nat.zero_add, Nat.reduceLeDiff, and_self, if_true, List.toList_toArray, Nat.le_refl, Nat.zero_mul, Nat.one_mul]; first | done | rfl)) is_rfl | exact OpR_build_arr rfl (by (simp only [bld, placesOf, splice, Value.cells, List.take_succ_cons, List.take_zero, List.drop_succ_cons, List.drop_zero, List.cons_append, List.nil_append, List.length_cons, List.length_nil, List.getElem?_cons_zero, List.getElem?_cons_succ, Option.map_some, List.append_nil, Nat.reduceAdd, Nat.reduceMul, Nat.zero_add, Nat.reduceLeDiff, and_self, if_true, List.toList_toArray, Nat.le_refl, Nat.zero_mul, Nat.one_mul]; first | done | rfl)) is_rfl)); first | (exact rfl; exact rfl) | exact rfl)
        | (apply J_seq)
        | (apply J_region)
        | (apply J_block)
        | (apply J_inBlock)
        | (apply aj_exit; refine J_exit rfl ?_)
        | (apply J_skip)
        | (apply al_none; (first | (refine JL_o (by apply as_box; exact OpR_box' hs rfl) rfl rfl ?_) | (refine JL_o (by apply as_alloc; exact OpR_alloc' hs) rfl rfl ?_)); rintro _ _ ⟨_, rfl, hb, hs, hE⟩)
        | (apply al_unit; refine JL_u (by apply as_store; exact OpR_store' hs rfl rfl rfl) rfl ?_; rintro _ _ ⟨hs, hF⟩)
        | (apply al_guard; first
    | (refine JL_no rfl (by first | assumption | rfl | exact decide_eq_true (by first | assumption | omega) | exact decide_eq_false (by first | assumption | omega)) rfl ?_)
    | (fail_if_success (apply JL_o_on rfl (by first | assumption | rfl | exact decide_eq_true (by first | assumption | omega) | exact decide_eq_false (by first | assumption | omega)))); first | (refine JL_split_dec rfl (fun _ => ?_) (fun _ => ?_)) | (refine JL_split rfl (fun _ => ?_) (fun _ => ?_)))
        | (apply aj_cond; first | refine J_dec_t rfl (by first | assumption | omega) ?_ | refine J_dec_f rfl (by first | assumption | omega) ?_ | refine J_cond_t rfl (by first | assumption | rfl | exact decide_eq_true (by first | assumption | omega) | exact decide_eq_false (by first | assumption | omega)) ?_ | refine J_cond_f rfl (by first | assumption | rfl | exact decide_eq_true (by first | assumption | omega) | exact decide_eq_false (by first | assumption | omega)) ?_ | (refine J_cond_dec rfl (fun _ => ?_) (fun _ => ?_)) | (refine J_cond rfl (fun _ => ?_) (fun _ => ?_)))
        | (apply aj_draw; first
    | (refine J_draw (id := 22) [0, 0, 3, 7, 0, 16, 0, 0, 192, 496, 1023, 2047, 4095] [(0, false), (1, false), (2, false), (3, false), (4, false), (5, false), (6, false), (7, false), (8, true), (9, true), (10, false)] [11, 12] mixed (by kernel_rfl) (by kernel_rfl) ?_; intro _ hE _; have hs := hs.ext hE)
    | (refine J_draw (id := 39) [0, 1, 0, 4, 0, 0, 60, 127, 255, 511] [(0, false), (1, false), (2, false), (4, false), (5, false), (3, true), (6, true), (7, true)] [8, 9] mixed (by kernel_rfl) (by kernel_rfl) ?_; intro _ hE _; have hs := hs.ext hE)
    | (refine J_draw (id := 44) [0, 0, 2, 7, 15] [(0, false), (1, false), (2, true), (3, true), (4, false)] [] mixed (by kernel_rfl) (by kernel_rfl) ?_; intro _ hE _; have hs := hs.ext hE))
        | (apply JD_done)
        | (apply JD_tail; case' hos => (simp only [List.map_cons, List.map_nil, List.getElem?_toArray, List.getElem?_cons_succ, List.getElem?_cons_zero]; repeat' (first | exact ms_nil | apply ms_cons)))
        | (refine JD_f_off rfl rfl (by first | assumption | rfl | exact decide_eq_true (by first | assumption | omega) | exact decide_eq_false (by first | assumption | omega)) rfl ?_)
        | (refine JD_c_off rfl rfl (by first | assumption | rfl | exact decide_eq_true (by first | assumption | omega) | exact decide_eq_false (by first | assumption | omega)) rfl ?_)
        | (refine JD_split_dec rfl rfl (fun _ => ?_) (fun _ => ?_))
        | (refine JD_split rfl rfl (fun _ => ?_) (fun _ => ?_)))
      refine J_leave Try.func3 rfl (.tmp rfl .nil) ⟨rfl, hs.frm.ext⟩
  | true =>
    refine J_loop (α := Nat) (fun k w' => St w NoF w' [Row a2 lv.length c2 31 1 cells, Dats Rl (tSl (tInt .u64)) cells lv, Blk b7 (.cells #[.int .i64 Wd, .int .i64 Rr, .slice ac c0.length cc] 24 (0, 0)), Row ac c0.length cc 41 1 (u64s c0), Blk b3 (.cells #[.int .i64 Wd, .int .i64 Rr, .slice a n c] 24 (0, 0))] ∧ k ≤ nr)
      (fun k => [(2, .slice a2 lv.length c2), (3, ptr b3), (7, ptr b7), (8, .bool true), (38, .slice ar nr cr), (39, .int .i64 nr), (40, .int .i64 k)]) (fun k => nr - k) 0 ⟨hs, by omega⟩ ⟨rfl, rfl, rfl, rfl, rfl, rfl, rfl, trivial⟩ ?_
    rintro k w' ⟨hs, hk⟩ ih
    by_cases hlt : k < nr
    · obtain ⟨b, o, rfl⟩ := hrows.sl.addr (by omega)
      have hx : rows[k]? = some rows[k] := List.getElem?_eq_getElem (by omega)
      have hk64 := (hrows.sl.int hx rfl).2
      obtain ⟨r, hr⟩ : ∃ r, r = rows[k] := ⟨_, rfl⟩
      rw [← hr] at hx hk64
      simp only [inK] at hk64
      by_cases h6 : k = 6
      · subst h6
        repeat' (first
          | (apply JL_nil)
          | ((first | (apply JL_pure) | (apply JL_pure_on; exact rfl; (first | assumption | exact rfl | exact decide_eq_true (by first | assumption | omega) | exact decide_eq_false (by first | assumption | omega))) | (apply JD_f; exact rfl; exact hs; intro W hE hs) | (apply JD_f_on; exact rfl; exact rfl; (first | assumption | exact rfl | exact decide_eq_true (by first | assumption | omega) | exact decide_eq_false (by first | assumption | omega)); exact hs; intro W hE hs)); (first
      | (apply as_load; exact OpR_load_int (hrows.sl.st hs) rfl hx is_rfl)
      | (apply as_move; first | exact OpR_move rfl is_rfl)
      | (apply as_assign; first | exact OpR_assign rfl is_rfl)
      | (apply as_fieldAddr; first | exact OpR_fieldAddr0 rfl rfl is_rfl | exact OpR_fieldAddr rfl rfl is_rfl)
      | (apply as_load; first | exact OpR_load' hs rfl rfl is_rfl | exact OpR_load_agg' hs rfl is_rfl)
      | (apply as_add; first | exact OpR_addn rfl rfl (by omega) (by first | (simp only [Int.reduceAdd]; exact rfl) | exact rfl) is_rfl | exact OpR_ibin rfl rfl rfl is_rfl)
      | (apply as_binOp; first | exact OpR_ibin rfl rfl rfl is_rfl | exact OpR_beq rfl rfl is_rfl | exact OpR_bne rfl rfl is_rfl | exact OpR_eqNil rfl rfl is_rfl | exact OpR_neNil rfl rfl is_rfl)
      | (apply as_unOp; first | exact OpR_not rfl is_rfl)
      | (apply as_pick; first | exact OpR_pick_t rfl (by first | assumption | rfl | exact decide_eq_true (by first | assumption | omega) | exact decide_eq_false (by first | assumption | omega)) rfl is_rfl | exact OpR_pick_f rfl (by first | assumption | rfl | exact decide_eq_true (by first | assumption | omega) | exact decide_eq_false (by first | assumption | omega)) rfl is_rfl)
      | (apply as_b_len; first | exact OpR_len rfl is_rfl | exact OpR_len_str rfl is_rfl | exact OpR_len_arr rfl is_rfl)
      | (apply as_extract; first | exact OpR_extract rfl rfl is_rfl)
      | (apply as_indexAddr; first | exact OpR_indexAddr rfl rfl (by omega) (by omega) is_rfl | exact OpR_indexAddr_arr' rfl rfl (by omega) (by omega) (by first | (simp only [Int.reduceToNat, Nat.reduceMul, Nat.reduceAdd]; exact rfl) | exact rfl) is_rfl)
      | (apply as_build; first | exact OpR_build rfl (by (simp only [bld, placesOf, splice, Value.cells, List.take_succ_cons, List.take_zero, List.drop_succ_cons, List.drop_zero, List.cons_append, List.nil_append, List.length_cons, List.length_nil, List.getElem?_cons_zero, List.getElem?_cons_succ, Option.map_some, List.append_nil, Nat.reduceAdd, Nat.reduceMul, Nat.zero_add, Nat.reduceLeDiff, and_self, if_true, List.toList_toArray, Nat.le_refl, Nat.zero_mul, Nat.one_mul]; first | done | rfl)) is_rfl | exact OpR_build_arr rfl (by (simp only [bld, placesOf, splice, Value.cells, List.take_succ_cons, List.take_zero, List.drop_succ_cons, List.drop_zero, List.cons_append, List.nil_append, List.length_cons, List.length_nil, List.getElem?_cons_zero, List.getElem?_cons_succ, Option.map_some, List.append_nil, Nat.reduceAdd, Nat.reduceMul, Nat.zero_add, Nat.reduceLeDiff, and_self, if_true, List.toList_toArray, Nat.le_refl, Nat.zero_mul, Nat.one_mul]; first | done | rfl)) is_rfl)); first | (exact rfl; exact rfl) | exact rfl)
          | (apply J_seq)
          | (apply J_region)
          | (apply J_block)
          | (apply J_inBlock)
          | (apply aj_exit; refine J_exit rfl ?_)
          | (apply J_skip)
          | (apply al_none; (first | (refine JL_o (by apply as_box; exact OpR_box' hs rfl) rfl rfl ?_) | (refine JL_o (by apply as_alloc; exact OpR_alloc' hs) rfl rfl ?_)); rintro _ _ ⟨_, rfl, hb, hs, hE⟩)
          | (apply al_unit; refine JL_u (by apply as_store; exact OpR_store' hs rfl rfl rfl) rfl ?_; rintro _ _ ⟨hs, hF⟩)
          | (apply al_guard; first
    | (refine JL_no rfl (by first | assumption | rfl | exact decide_eq_true (by first | assumption | omega) | exact decide_eq_false (by first | assumption | omega)) rfl ?_)
    | (fail_if_success (apply JL_o_on rfl (by first | assumption | rfl | exact decide_eq_true (by first | assumption | omega) | exact decide_eq_false (by first | assumption | omega)))); first | (refine JL_split_dec rfl (fun _ => ?_) (fun _ => ?_)) | (refine JL_split rfl (fun _ => ?_) (fun _ => ?_)))
          | (apply aj_cond; first | refine J_dec_t rfl (by first | assumption | omega) ?_ | refine J_dec_f rfl (by first | assumption | omega) ?_ | refine J_cond_t rfl (by first | assumption | rfl | exact decide_eq_true (by first | assumption | omega) | exact decide_eq_false (by first | assumption | omega)) ?_ | refine J_cond_f rfl (by first | assumption | rfl | exact decide_eq_true (by first | assumption | omega) | exact decide_eq_false (by first | assumption | omega)) ?_ | (refine J_cond_dec rfl (fun _ => ?_) (fun _ => ?_)) | (refine J_cond rfl (fun _ => ?_) (fun _ => ?_)))
          | (apply aj_draw; first
    | (refine J_draw (id := 22) [0, 0, 3, 7, 0, 16, 0, 0, 192, 496, 1023, 2047, 4095] [(0, false), (1, false), (2, false), (3, false), (4, false), (5, false), (6, false), (7, false), (8, true), (9, true), (10, false)] [11, 12] mixed (by kernel_rfl) (by kernel_rfl) ?_; intro _ hE _; have hs := hs.ext hE)
    | (refine J_draw (id := 39) [0, 1, 0, 4, 0, 0, 60, 127, 255, 511] [(0, false), (1, false), (2, false), (4, false), (5, false), (3, true), (6, true), (7, true)] [8, 9] mixed (by kernel_rfl) (by kernel_rfl) ?_; intro _ hE _; have hs := hs.ext hE)
    | (refine J_draw (id := 44) [0, 0, 2, 7, 15] [(0, false), (1, false), (2, true), (3, true), (4, false)] [] mixed (by kernel_rfl) (by kernel_rfl) ?_; intro _ hE _; have hs := hs.ext hE))
          | (apply JD_done)
          | (apply JD_tail; case' hos => (simp only [List.map_cons, List.map_nil, List.getElem?_toArray, List.getElem?_cons_succ, List.getElem?_cons_zero]; repeat' (first | exact ms_nil | apply ms_cons)))
          | (refine JD_f_off rfl rfl (by first | assumption | rfl | exact decide_eq_true (by first | assumption | omega) | exact decide_eq_false (by first | assumption | omega)) rfl ?_)
          | (refine JD_c_off rfl rfl (by first | assumption | rfl | exact decide_eq_true (by first | assumption | omega) | exact decide_eq_false (by first | assumption | omega)) rfl ?_)
          | (refine JD_split_dec rfl rfl (fun _ => ?_) (fun _ => ?_))
          | (refine JD_split rfl rfl (fun _ => ?_) (fun _ => ?_)))
        refine J_leave Try.func3 rfl (.tmp rfl .nil) ⟨rfl, hs.frm.ext⟩
      · by_cases hr0 : r < 0
        · have hget : getM Wd Rr r c0 = (([] : List Int), 2) := by unfold getM; rw [if_pos hB, if_neg (by omega)]
          have hsw : doesM Wd Rr r c0.length 0 (Rr - 1) (swapW Wd Rr r c0) = (0, 0, ([] : List Int), 2) := by unfold doesM; rw [if_pos hB, if_neg (by omega)]
          have huv : U64 ([] : List Int) := u64_nil
          have hus : U64 ([] : List Int) := u64_nil
          have hvl60 : (([] : List Int)).length ≤ 60 := by simp
          have hsl60 : (([] : List Int)).length ≤ 1000 := by simp
          repeat' (first
            | ((apply al_none; refine JL_o (OpR_callF en14 rfl (get_r _ Wd Rr r ac c0.length cc c0 ((hs.row ac c0.length cc).wr hu0))) rfl rfl ?_; rw [hget]; rintro _ _ ⟨av, cv, rfl, hf⟩; dsimp only at hf ⊢; have hs : St _ _ _ [_, _, _, _, _, _] := hs.fresh hf))
            | ((apply al_none; refine JL_o (OpR_callF en15 rfl (swap_r _ Wd Rr r ac c0.length cc c0 ((hs.row ac c0.length cc).wr hu0))) rfl rfl ?_; rw [hsw]; rintro _ _ ⟨as_, cs_, rfl, hf⟩; dsimp only at hf ⊢; have hs : St _ _ _ [_, _, _, _, _, _, _] := hs.fresh hf))
            | ((refine JL_o_on rfl (by first | assumption | rfl | exact decide_eq_true (by first | assumption | omega) | exact decide_eq_false (by first | assumption | omega)) (OpR_callF en19 rfl (equal19_t _ _ _ _ _ _ _ ([] : List Int) ((hs.row av (([] : List Int)).length cv).wr huv) (wr_nil _))) rfl rfl ?_; rintro _ _ ⟨rfl, hE⟩; have hs := hs.ext hE))
            | ((refine JL_o_on rfl (by first | assumption | rfl | exact decide_eq_true (by first | assumption | omega) | exact decide_eq_false (by first | assumption | omega)) (OpR_callF en20 rfl (rsame_t _ _ _ _ _ _ _ _ _ _ _ ([] : List Int) _ ((hs.row as_ (([] : List Int)).length cs_).wr hus) (wr_nil _) ⟨rfl, rfl, rfl⟩)) rfl rfl ?_; rintro _ _ ⟨rfl, hE⟩; have hs := hs.ext hE))
            | ((apply al_none; have hs : St _ _ _ [_, _, _, _, _, _, _] := hs.sub (.cons _ (.cons _ (List.Sublist.refl _))); refine JL_o (OpR_callF en21 rfl (spoil_r _ _ _ as_ _ cs_ ([] : List Int) (St.held (A := [_]) hs) (by omega))) rfl rfl ?_; rintro _ _ ht; have hs : St _ _ _ [_, _, _, _, _, _] := St.take (A := [_]) (A' := []) hs ht; clear ht))
            | (apply JL_nil)
            | ((first | (apply JL_pure) | (apply JL_pure_on; exact rfl; (first | assumption | exact rfl | exact decide_eq_true (by first | assumption | omega) | exact decide_eq_false (by first | assumption | omega))) | (apply JD_f; exact rfl; exact hs; intro W hE hs) | (apply JD_f_on; exact rfl; exact rfl; (first | assumption | exact rfl | exact decide_eq_true (by first | assumption | omega) | exact decide_eq_false (by first | assumption | omega)); exact hs; intro W hE hs)); (first
      | (apply as_load; exact OpR_load_int (hrows.sl.st hs) rfl hx is_rfl)
      | (apply as_move; first | exact OpR_move rfl is_rfl)
      | (apply as_assign; first | exact OpR_assign rfl is_rfl)
      | (apply as_fieldAddr; first | exact OpR_fieldAddr0 rfl rfl is_rfl | exact OpR_fieldAddr rfl rfl is_rfl)
      | (apply as_load; first | exact OpR_load' hs rfl rfl is_rfl | exact OpR_load_agg' hs rfl is_rfl)
      | (apply as_add; first | exact OpR_addn rfl rfl (by omega) (by first | (simp only [Int.reduceAdd]; exact rfl) | exact rfl) is_rfl | exact OpR_ibin rfl rfl rfl is_rfl)
      | (apply as_binOp; first | exact OpR_ibin rfl rfl rfl is_rfl | exact OpR_beq rfl rfl is_rfl | exact OpR_bne rfl rfl is_rfl | exact OpR_eqNil rfl rfl is_rfl | exact OpR_neNil rfl rfl is_rfl)
      | (apply as_unOp; first | exact OpR_not rfl is_rfl)
      | (apply as_pick; first | exact OpR_pick_t rfl (by first | assumption | rfl | exact decide_eq_true (by first | assumption | omega) | exact decide_eq_false (by first | assumption | omega)) rfl is_rfl | exact OpR_pick_f rfl (by first | assumption | rfl | exact decide_eq_true (by first | assumption | omega) | exact decide_eq_false (by first | assumption | omega)) rfl is_rfl)
      | (apply as_b_len; first | exact OpR_len rfl is_rfl | exact OpR_len_str rfl is_rfl | exact OpR_len_arr rfl is_rfl)
      | (apply as_extract; first | exact OpR_extract rfl rfl is_rfl)
      | (apply as_indexAddr; first | exact OpR_indexAddr rfl rfl (by omega) (by omega) is_rfl | exact OpR_indexAddr_arr' rfl rfl (by omega) (by omega) (by first | (simp only [Int.reduceToNat, Nat.reduceMul, Nat.reduceAdd]; exact rfl) | exact rfl) is_rfl)
      | (apply as_build; first | exact OpR_build rfl (by (simp only [bld, placesOf, splice, Value.cells, List.take_succ_cons, List.take_zero, List.drop_succ_cons, List.drop_zero, List.cons_append, List.nil_append, List.length_cons, List.length_nil, List.getElem?_cons_zero, List.getElem?_cons_succ, Option.map_some, List.append_nil, Nat.reduceAdd, Nat.reduceMul, Nat.zero_add, Nat.reduceLeDiff, and_self, if_true, List.toList_toArray, Nat.le_refl, Nat.zero_mul, Nat.one_mul]; first | done | rfl)) is_rfl | exact OpR_build_arr rfl (by (simp only [bld, placesOf, splice, Value.cells, List.take_succ_cons, List.take_zero, List.drop_succ_cons, List.drop_zero, List.cons_append, List.nil_append, List.length_cons, List.length_nil, List.getElem?_cons_zero, List.getElem?_cons_succ, Option.map_some, List.append_nil, Nat.reduceAdd, Nat.reduceMul, Nat.zero_add, Nat.reduceLeDiff, and_self, if_true, List.toList_toArray, Nat.le_refl, Nat.zero_mul, Nat.one_mul]; first | done | rfl)) is_rfl)); first | (exact rfl; exact rfl) | exact rfl)
            | (apply J_seq)
            | (apply J_region)
            | (apply J_block)
            | (apply J_inBlock)
            | (apply aj_exit; refine J_exit rfl ?_)
            | (apply J_skip)
            | (apply al_none; (first | (refine JL_o (by apply as_box; exact OpR_box' hs rfl) rfl rfl ?_) | (refine JL_o (by apply as_alloc; exact OpR_alloc' hs) rfl rfl ?_)); rintro _ _ ⟨_, rfl, hb, hs, hE⟩)
            | (apply al_unit; refine JL_u (by apply as_store; exact OpR_store' hs rfl rfl rfl) rfl ?_; rintro _ _ ⟨hs, hF⟩)
            | (apply al_guard; first
    | (refine JL_no rfl (by first | assumption | rfl | exact decide_eq_true (by first | assumption | omega) | exact decide_eq_false (by first | assumption | omega)) rfl ?_)
    | (fail_if_success (apply JL_o_on rfl (by first | assumption | rfl | exact decide_eq_true (by first | assumption | omega) | exact decide_eq_false (by first | assumption | omega)))); first | (refine JL_split_dec rfl (fun _ => ?_) (fun _ => ?_)) | (refine JL_split rfl (fun _ => ?_) (fun _ => ?_)))
            | (apply aj_cond; first | refine J_dec_t rfl (by first | assumption | omega) ?_ | refine J_dec_f rfl (by first | assumption | omega) ?_ | refine J_cond_t rfl (by first | assumption | rfl | exact decide_eq_true (by first | assumption | omega) | exact decide_eq_false (by first | assumption | omega)) ?_ | refine J_cond_f rfl (by first | assumption | rfl | exact decide_eq_true (by first | assumption | omega) | exact decide_eq_false (by first | assumption | omega)) ?_ | (refine J_cond_dec rfl (fun _ => ?_) (fun _ => ?_)) | (refine J_cond rfl (fun _ => ?_) (fun _ => ?_)))
            | (apply aj_draw; first
    | (refine J_draw (id := 22) [0, 0, 3, 7, 0, 16, 0, 0, 192, 496, 1023, 2047, 4095] [(0, false), (1, false), (2, false), (3, false), (4, false), (5, false), (6, false), (7, false), (8, true), (9, true), (10, false)] [11, 12] mixed (by kernel_rfl) (by kernel_rfl) ?_; intro _ hE _; have hs := hs.ext hE)
    | (refine J_draw (id := 39) [0, 1, 0, 4, 0, 0, 60, 127, 255, 511] [(0, false), (1, false), (2, false), (4, false), (5, false), (3, true), (6, true), (7, true)] [8, 9] mixed (by kernel_rfl) (by kernel_rfl) ?_; intro _ hE _; have hs := hs.ext hE)
    | (refine J_draw (id := 44) [0, 0, 2, 7, 15] [(0, false), (1, false), (2, true), (3, true), (4, false)] [] mixed (by kernel_rfl) (by kernel_rfl) ?_; intro _ hE _; have hs := hs.ext hE))
            | (apply JD_done)
            | (apply JD_tail; case' hos => (simp only [List.map_cons, List.map_nil, List.getElem?_toArray, List.getElem?_cons_succ, List.getElem?_cons_zero]; repeat' (first | exact ms_nil | apply ms_cons)))
            | (refine JD_f_off rfl rfl (by first | assumption | rfl | exact decide_eq_true (by first | assumption | omega) | exact decide_eq_false (by first | assumption | omega)) rfl ?_)
            | (refine JD_c_off rfl rfl (by first | assumption | rfl | exact decide_eq_true (by first | assumption | omega) | exact decide_eq_false (by first | assumption | omega)) rfl ?_)
            | (refine JD_split_dec rfl rfl (fun _ => ?_) (fun _ => ?_))
            | (refine JD_split rfl rfl (fun _ => ?_) (fun _ => ?_)))
          refine J_loop (α := Nat × List Int) (fun g w' => St w NoF w' [Row av (([] : List Int)).length cv 41 1 (u64s g.2), Row a2 lv.length c2 31 1 cells, Dats Rl (tSl (tInt .u64)) cells lv, Blk b7 (.cells #[.int .i64 Wd, .int .i64 Rr, .slice ac c0.length cc] 24 (0, 0)), Row ac c0.length cc 41 1 (u64s c0), Blk b3 (.cells #[.int .i64 Wd, .int .i64 Rr, .slice a n c] 24 (0, 0))] ∧ g.1 ≤ (([] : List Int)).length ∧ g.2.length = (([] : List Int)).length)
            (fun g => [(2, .slice a2 lv.length c2), (3, ptr b3), (7, ptr b7), (8, .bool true), (38, .slice (some ⟨b, o, none⟩) nr cr), (39, .int .i64 nr), (40, .int .i64 k), (10, .int .i64 r), (17, .int .i64 2), (18, .bool false), (11, .slice av (([] : List Int)).length cv), (107, .int .i64 ((([] : List Int)).length : Nat)), (108, .int .i64 g.1)]) (fun g => (([] : List Int)).length - g.1) (0, ([] : List Int)) ⟨hs, by dsimp only; omega, rfl⟩ ⟨rfl, rfl, rfl, rfl, rfl, rfl, rfl, rfl, rfl, (by first | exact rfl | exact isv_f (by omega) | exact isv_t (by omega)), rfl, rfl, rfl, trivial⟩ ?_
          rintro ⟨j, xs⟩ w2 ⟨hs, hj, hjx⟩ ih1
          dsimp only at hs hj hjx ih1 ⊢
          by_cases hjl : j < (([] : List Int)).length
          · obtain ⟨b9, o9, rfl⟩ := (hs.row av (([] : List Int)).length cv).some (by omega)
            have hcell : (u64s xs)[j]? = some (.int .u64 xs[j]) := by rw [List.getElem?_map, List.getElem?_eq_getElem (by omega)]; rfl
            repeat' (first
              | ((apply al_unit; refine JL_u (by apply as_store; exact OpR_storeRow (b := b9) (o := o9) (i := j) (n := (([] : List Int)).length) (c := cv) hs rfl rfl rfl rfl hjl) rfl ?_; rintro _ _ ⟨hs, hF⟩))
              | (apply JL_nil)
              | ((first | (apply JL_pure) | (apply JL_pure_on; exact rfl; (first | assumption | exact rfl | exact decide_eq_true (by first | assumption | omega) | exact decide_eq_false (by first | assumption | omega))) | (apply JD_f; exact rfl; exact hs; intro W hE hs) | (apply JD_f_on; exact rfl; exact rfl; (first | assumption | exact rfl | exact decide_eq_true (by first | assumption | omega) | exact decide_eq_false (by first | assumption | omega)); exact hs; intro W hE hs)); (first
      | (apply as_load; exact OpR_loadRow (b := b9) (o := o9) (i := j) (n := (([] : List Int)).length) (c := cv) hs rfl hcell is_rfl)
      | (apply as_move; first | exact OpR_move rfl is_rfl)
      | (apply as_assign; first | exact OpR_assign rfl is_rfl)
      | (apply as_fieldAddr; first | exact OpR_fieldAddr0 rfl rfl is_rfl | exact OpR_fieldAddr rfl rfl is_rfl)
      | (apply as_load; first | exact OpR_load' hs rfl rfl is_rfl | exact OpR_load_agg' hs rfl is_rfl)
      | (apply as_add; first | exact OpR_addn rfl rfl (by omega) (by first | (simp only [Int.reduceAdd]; exact rfl) | exact rfl) is_rfl | exact OpR_ibin rfl rfl rfl is_rfl)
      | (apply as_binOp; first | exact OpR_ibin rfl rfl rfl is_rfl | exact OpR_beq rfl rfl is_rfl | exact OpR_bne rfl rfl is_rfl | exact OpR_eqNil rfl rfl is_rfl | exact OpR_neNil rfl rfl is_rfl)
      | (apply as_unOp; first | exact OpR_not rfl is_rfl)
      | (apply as_pick; first | exact OpR_pick_t rfl (by first | assumption | rfl | exact decide_eq_true (by first | assumption | omega) | exact decide_eq_false (by first | assumption | omega)) rfl is_rfl | exact OpR_pick_f rfl (by first | assumption | rfl | exact decide_eq_true (by first | assumption | omega) | exact decide_eq_false (by first | assumption | omega)) rfl is_rfl)
      | (apply as_b_len; first | exact OpR_len rfl is_rfl | exact OpR_len_str rfl is_rfl | exact OpR_len_arr rfl is_rfl)
      | (apply as_extract; first | exact OpR_extract rfl rfl is_rfl)
      | (apply as_indexAddr; first | exact OpR_indexAddr rfl rfl (by omega) (by omega) is_rfl | exact OpR_indexAddr_arr' rfl rfl (by omega) (by omega) (by first | (simp only [Int.reduceToNat, Nat.reduceMul, Nat.reduceAdd]; exact rfl) | exact rfl) is_rfl)
      | (apply as_build; first | exact OpR_build rfl (by (simp only [bld, placesOf, splice, Value.cells, List.take_succ_cons, List.take_zero, List.drop_succ_cons, List.drop_zero, List.cons_append, List.nil_append, List.length_cons, List.length_nil, List.getElem?_cons_zero, List.getElem?_cons_succ, Option.map_some, List.append_nil, Nat.reduceAdd, Nat.reduceMul, Nat.zero_add, Nat.reduceLeDiff, and_self, if_true, List.toList_toArray, Nat.le_refl, Nat.zero_mul, Nat.one_mul]; first | done | rfl)) is_rfl | exact OpR_build_arr rfl (by (simp only [bld, placesOf, splice, Value.cells, List.take_succ_cons, List.take_zero, List.drop_succ_cons, List.drop_zero, List.cons_append, List.nil_append, List.length_cons, List.length_nil, List.getElem?_cons_zero, List.getElem?_cons_succ, Option.map_some, List.append_nil, Nat.reduceAdd, Nat.reduceMul, Nat.zero_add, Nat.reduceLeDiff, and_self, if_true, List.toList_toArray, Nat.le_refl, Nat.zero_mul, Nat.one_mul]; first | done | rfl)) is_rfl)); first | (exact rfl; exact rfl) | exact rfl)
              | (apply J_seq)
              | (apply J_region)
              | (apply J_block)
              | (apply J_inBlock)
              | (apply aj_exit; refine J_exit rfl ?_)
              | (apply J_skip)
              | (apply al_none; (first | (refine JL_o (by apply as_box; exact OpR_box' hs rfl) rfl rfl ?_) | (refine JL_o (by apply as_alloc; exact OpR_alloc' hs) rfl rfl ?_)); rintro _ _ ⟨_, rfl, hb, hs, hE⟩)
              | (apply al_unit; refine JL_u (by apply as_store; exact OpR_store' hs rfl rfl rfl) rfl ?_; rintro _ _ ⟨hs, hF⟩)
              | (apply al_guard; first
    | (refine JL_no rfl (by first | assumption | rfl | exact decide_eq_true (by first | assumption | omega) | exact decide_eq_false (by first | assumption | omega)) rfl ?_)
    | (fail_if_success (apply JL_o_on rfl (by first | assumption | rfl | exact decide_eq_true (by first | assumption | omega) | exact decide_eq_false (by first | assumption | omega)))); first | (refine JL_split_dec rfl (fun _ => ?_) (fun _ => ?_)) | (refine JL_split rfl (fun _ => ?_) (fun _ => ?_)))
              | (apply aj_cond; first | refine J_dec_t rfl (by first | assumption | omega) ?_ | refine J_dec_f rfl (by first | assumption | omega) ?_ | refine J_cond_t rfl (by first | assumption | rfl | exact decide_eq_true (by first | assumption | omega) | exact decide_eq_false (by first | assumption | omega)) ?_ | refine J_cond_f rfl (by first | assumption | rfl | exact decide_eq_true (by first | assumption | omega) | exact decide_eq_false (by first | assumption | omega)) ?_ | (refine J_cond_dec rfl (fun _ => ?_) (fun _ => ?_)) | (refine J_cond rfl (fun _ => ?_) (fun _ => ?_)))
              | (apply aj_draw; first
    | (refine J_draw (id := 22) [0, 0, 3, 7, 0, 16, 0, 0, 192, 496, 1023, 2047, 4095] [(0, false), (1, false), (2, false), (3, false), (4, false), (5, false), (6, false), (7, false), (8, true), (9, true), (10, false)] [11, 12] mixed (by kernel_rfl) (by kernel_rfl) ?_; intro _ hE _; have hs := hs.ext hE)
    | (refine J_draw (id := 39) [0, 1, 0, 4, 0, 0, 60, 127, 255, 511] [(0, false), (1, false), (2, false), (4, false), (5, false), (3, true), (6, true), (7, true)] [8, 9] mixed (by kernel_rfl) (by kernel_rfl) ?_; intro _ hE _; have hs := hs.ext hE)
    | (refine J_draw (id := 44) [0, 0, 2, 7, 15] [(0, false), (1, false), (2, true), (3, true), (4, false)] [] mixed (by kernel_rfl) (by kernel_rfl) ?_; intro _ hE _; have hs := hs.ext hE))
              | (apply JD_done)
              | (apply JD_tail; case' hos => (simp only [List.map_cons, List.map_nil, List.getElem?_toArray, List.getElem?_cons_succ, List.getElem?_cons_zero]; repeat' (first | exact ms_nil | apply ms_cons)))
              | (refine JD_f_off rfl rfl (by first | assumption | rfl | exact decide_eq_true (by first | assumption | omega) | exact decide_eq_false (by first | assumption | omega)) rfl ?_)
              | (refine JD_c_off rfl rfl (by first | assumption | rfl | exact decide_eq_true (by first | assumption | omega) | exact decide_eq_false (by first | assumption | omega)) rfl ?_)
              | (refine JD_split_dec rfl rfl (fun _ => ?_) (fun _ => ?_))
              | (refine JD_split rfl rfl (fun _ => ?_) (fun _ => ?_)))
            refine J.to (ih1 (j + 1, xs.set j _) _ ⟨by dsimp only; rw [u64s_set]; exact hs, by dsimp only; omega, by simpa using hjx⟩ (by dsimp only; omega)) ⟨rfl, rfl, rfl, rfl, rfl, rfl, rfl, rfl, rfl, (by first | exact rfl | exact isv_f (by omega) | exact isv_t (by omega)), rfl, rfl, rfl, trivial⟩
          · repeat' (first
              | (apply JL_nil)
              | ((first | (apply JL_pure) | (apply JL_pure_on; exact rfl; (first | assumption | exact rfl | exact decide_eq_true (by first | assumption | omega) | exact decide_eq_false (by first | assumption | omega))) | (apply JD_f; exact rfl; exact hs; intro W hE hs) | (apply JD_f_on; exact rfl; exact rfl; (first | assumption | exact rfl | exact decide_eq_true (by first | assumption | omega) | exact decide_eq_false (by first | assumption | omega)); exact hs; intro W hE hs)); (first
      | (apply as_move; first | exact OpR_move rfl is_rfl)
      | (apply as_assign; first | exact OpR_assign rfl is_rfl)
      | (apply as_fieldAddr; first | exact OpR_fieldAddr0 rfl rfl is_rfl | exact OpR_fieldAddr rfl rfl is_rfl)
      | (apply as_load; first | exact OpR_load' hs rfl rfl is_rfl | exact OpR_load_agg' hs rfl is_rfl)
      | (apply as_add; first | exact OpR_addn rfl rfl (by omega) (by first | (simp only [Int.reduceAdd]; exact rfl) | exact rfl) is_rfl | exact OpR_ibin rfl rfl rfl is_rfl)
      | (apply as_binOp; first | exact OpR_ibin rfl rfl rfl is_rfl | exact OpR_beq rfl rfl is_rfl | exact OpR_bne rfl rfl is_rfl | exact OpR_eqNil rfl rfl is_rfl | exact OpR_neNil rfl rfl is_rfl)
      | (apply as_unOp; first | exact OpR_not rfl is_rfl)
      | (apply as_pick; first | exact OpR_pick_t rfl (by first | assumption | rfl | exact decide_eq_true (by first | assumption | omega) | exact decide_eq_false (by first | assumption | omega)) rfl is_rfl | exact OpR_pick_f rfl (by first | assumption | rfl | exact decide_eq_true (by first | assumption | omega) | exact decide_eq_false (by first | assumption | omega)) rfl is_rfl)
      | (apply as_b_len; first | exact OpR_len rfl is_rfl | exact OpR_len_str rfl is_rfl | exact OpR_len_arr rfl is_rfl)
      | (apply as_extract; first | exact OpR_extract rfl rfl is_rfl)
      | (apply as_indexAddr; first | exact OpR_indexAddr rfl rfl (by omega) (by omega) is_rfl | exact OpR_indexAddr_arr' rfl rfl (by omega) (by omega) (by first | (simp only [Int.reduceToNat, Nat.reduceMul, Nat.reduceAdd]; exact rfl) | exact rfl) is_rfl)
      | (apply as_build; first | exact OpR_build rfl (by (simp only [bld, placesOf, splice, Value.cells, List.take_succ_cons, List.take_zero, List.drop_succ_cons, List.drop_zero, List.cons_append, List.nil_append, List.length_cons, List.length_nil, List.getElem?_cons_zero, List.getElem?_cons_succ, Option.map_some, List.append_nil, Nat.reduceAdd, Nat.reduceMul, Nat.zero_add, Nat.reduceLeDiff, and_self, if_true, List.toList_toArray, Nat.le_refl, Nat.zero_mul, Nat.one_mul]; first | done | rfl)) is_rfl | exact OpR_build_arr rfl (by (simp only [bld, placesOf, splice, Value.cells, List.take_succ_cons, List.take_zero, List.drop_succ_cons, List.drop_zero, List.cons_append, List.nil_append, List.length_cons, List.length_nil, List.getElem?_cons_zero, List.getElem?_cons_succ, Option.map_some, List.append_nil, Nat.reduceAdd, Nat.reduceMul, Nat.zero_add, Nat.reduceLeDiff, and_self, if_true, List.toList_toArray, Nat.le_refl, Nat.zero_mul, Nat.one_mul]; first | done | rfl)) is_rfl)); first | (exact rfl; exact rfl) | exact rfl)
              | (apply J_seq)
              | (apply J_region)
              | (apply J_block)
              | (apply J_inBlock)
              | (apply aj_exit; refine J_exit rfl ?_)
              | (apply J_skip)
              | (apply al_none; (first | (refine JL_o (by apply as_box; exact OpR_box' hs rfl) rfl rfl ?_) | (refine JL_o (by apply as_alloc; exact OpR_alloc' hs) rfl rfl ?_)); rintro _ _ ⟨_, rfl, hb, hs, hE⟩)
              | (apply al_unit; refine JL_u (by apply as_store; exact OpR_store' hs rfl rfl rfl) rfl ?_; rintro _ _ ⟨hs, hF⟩)
              | (apply al_guard; first
    | (refine JL_no rfl (by first | assumption | rfl | exact decide_eq_true (by first | assumption | omega) | exact decide_eq_false (by first | assumption | omega)) rfl ?_)
    | (fail_if_success (apply JL_o_on rfl (by first | assumption | rfl | exact decide_eq_true (by first | assumption | omega) | exact decide_eq_false (by first | assumption | omega)))); first | (refine JL_split_dec rfl (fun _ => ?_) (fun _ => ?_)) | (refine JL_split rfl (fun _ => ?_) (fun _ => ?_)))
              | (apply aj_cond; first | refine J_dec_t rfl (by first | assumption | omega) ?_ | refine J_dec_f rfl (by first | assumption | omega) ?_ | refine J_cond_t rfl (by first | assumption | rfl | exact decide_eq_true (by first | assumption | omega) | exact decide_eq_false (by first | assumption | omega)) ?_ | refine J_cond_f rfl (by first | assumption | rfl | exact decide_eq_true (by first | assumption | omega) | exact decide_eq_false (by first | assumption | omega)) ?_ | (refine J_cond_dec rfl (fun _ => ?_) (fun _ => ?_)) | (refine J_cond rfl (fun _ => ?_) (fun _ => ?_)))
              | (apply aj_draw; first
    | (refine J_draw (id := 22) [0, 0, 3, 7, 0, 16, 0, 0, 192, 496, 1023, 2047, 4095] [(0, false), (1, false), (2, false), (3, false), (4, false), (5, false), (6, false), (7, false), (8, true), (9, true), (10, false)] [11, 12] mixed (by kernel_rfl) (by kernel_rfl) ?_; intro _ hE _; have hs := hs.ext hE)
    | (refine J_draw (id := 39) [0, 1, 0, 4, 0, 0, 60, 127, 255, 511] [(0, false), (1, false), (2, false), (4, false), (5, false), (3, true), (6, true), (7, true)] [8, 9] mixed (by kernel_rfl) (by kernel_rfl) ?_; intro _ hE _; have hs := hs.ext hE)
    | (refine J_draw (id := 44) [0, 0, 2, 7, 15] [(0, false), (1, false), (2, true), (3, true), (4, false)] [] mixed (by kernel_rfl) (by kernel_rfl) ?_; intro _ hE _; have hs := hs.ext hE))
              | (apply JD_done)
              | (apply JD_tail; case' hos => (simp only [List.map_cons, List.map_nil, List.getElem?_toArray, List.getElem?_cons_succ, List.getElem?_cons_zero]; repeat' (first | exact ms_nil | apply ms_cons)))
              | (refine JD_f_off rfl rfl (by first | assumption | rfl | exact decide_eq_true (by first | assumption | omega) | exact decide_eq_false (by first | assumption | omega)) rfl ?_)
              | (refine JD_c_off rfl rfl (by first | assumption | rfl | exact decide_eq_true (by first | assumption | omega) | exact decide_eq_false (by first | assumption | omega)) rfl ?_)
              | (refine JD_split_dec rfl rfl (fun _ => ?_) (fun _ => ?_))
              | (refine JD_split rfl rfl (fun _ => ?_) (fun _ => ?_)))
            have hs : St w NoF _ [_, _, _, _, _] := hs.sub (.cons _ (List.Sublist.refl _))
            refine J_loop (α := Nat) (fun k w' => St w NoF w' [Row a2 lv.length c2 31 1 cells, Dats Rl (tSl (tInt .u64)) cells lv, Blk b7 (.cells #[.int .i64 Wd, .int .i64 Rr, .slice ac c0.length cc] 24 (0, 0)), Row ac c0.length cc 41 1 (u64s c0), Blk b3 (.cells #[.int .i64 Wd, .int .i64 Rr, .slice a n c] 24 (0, 0))] ∧ k ≤ lv.length)
              (fun k2 => [(2, .slice a2 lv.length c2), (3, ptr b3), (7, ptr b7), (8, .bool true), (38, .slice (some ⟨b, o, none⟩) nr cr), (39, .int .i64 nr), (40, .int .i64 k), (10, .int .i64 r), (17, .int .i64 2), (18, .bool false), (118, .slice a2 lv.length c2), (119, .int .i64 lv.length), (120, .int .i64 k2)]) (fun k => lv.length - k) 0 ⟨hs, by omega⟩ ⟨rfl, rfl, rfl, rfl, rfl, rfl, rfl, rfl, rfl, (by first | exact rfl | exact isv_f (by omega) | exact isv_t (by omega)), rfl, rfl, rfl, trivial⟩ ?_
            rintro k2 w3 ⟨hs, hk2⟩ ih2
            by_cases hkl : k2 < lv.length
            · obtain ⟨b8, o8, rfl⟩ := (hs.row a2 lv.length c2).some (by omega)
              have hxv : lv[k2]? = some lv[k2] := List.getElem?_eq_getElem (by omega)
              obtain ⟨vs, hvs⟩ : ∃ vs, vs = lv[k2] := ⟨_, rfl⟩
              rw [← hvs] at hxv
              obtain ⟨ap, np, cp, hcp⟩ := DatsV.cell (hs.all (Dats Rl (tSl (tInt .u64)) cells lv) (.tail _ (.head _))) hxv
              have hvp := DatsV.wr (hs.all (Dats Rl (tSl (tInt .u64)) cells lv) (.tail _ (.head _))) hcp hxv
              have hnp := hvp.len
              have huvs := hvp.u64
              have hset : setM Wd Rr r c0 vs = (0, 0, ([] : List Int), 2) := by unfold setM doesM; rw [if_pos hB, if_neg (by omega)]
              have hun : U64 ([] : List Int) := u64_nil
              have hnl : ([] : List Int).length ≤ 1000 := by simp
              repeat' (first
                | ((apply al_none; refine JL_o (OpR_callF en22 rfl (set_r _ Wd Rr r ac ap c0.length cc np cp c0 vs ((hs.row ac c0.length cc).wr hu0) (DatsV.wr (hs.all (Dats Rl (tSl (tInt .u64)) cells lv) (.tail _ (.head _))) hcp hxv))) rfl rfl ?_; rw [hset]; rintro _ _ ⟨an, cn, rfl, hf⟩; dsimp only at hf ⊢; have hs : St _ _ _ [_, _, _, _, _, _] := hs.fresh hf))
                | ((refine JL_o_on rfl (by first | assumption | rfl | exact decide_eq_true (by first | assumption | omega) | exact decide_eq_false (by first | assumption | omega)) (OpR_callF en20 rfl (rsame_t _ _ _ _ _ _ _ _ _ _ _ ([] : List Int) _ ((hs.row an (([] : List Int)).length cn).wr hun) (wr_nil _) ⟨rfl, rfl, rfl⟩)) rfl rfl ?_; rintro _ _ ⟨rfl, hE⟩; have hs := hs.ext hE))
                | ((apply al_none; have hs : St _ _ _ [_, _, _, _, _, _] := hs.sub (.cons _ (.cons _ (List.Sublist.refl _))); refine JL_o (OpR_callF en21 rfl (spoil_r _ _ _ an _ cn ([] : List Int) (St.held (A := [_]) hs) (by omega))) rfl rfl ?_; rintro _ _ ht; have hs : St _ _ _ [_, _, _, _, _] := St.take (A := [_]) (A' := []) hs ht; clear ht))
                | (apply JL_nil)
                | ((first | (apply JL_pure) | (apply JL_pure_on; exact rfl; (first | assumption | exact rfl | exact decide_eq_true (by first | assumption | omega) | exact decide_eq_false (by first | assumption | omega))) | (apply JD_f; exact rfl; exact hs; intro W hE hs) | (apply JD_f_on; exact rfl; exact rfl; (first | assumption | exact rfl | exact decide_eq_true (by first | assumption | omega) | exact decide_eq_false (by first | assumption | omega)); exact hs; intro W hE hs)); (first
      | (apply as_load; exact OpR_loadRow (b := b8) (o := o8) (i := k2) (n := lv.length) (c := c2) hs rfl hcp is_rfl)
      | (apply as_move; first | exact OpR_move rfl is_rfl)
      | (apply as_assign; first | exact OpR_assign rfl is_rfl)
      | (apply as_fieldAddr; first | exact OpR_fieldAddr0 rfl rfl is_rfl | exact OpR_fieldAddr rfl rfl is_rfl)
      | (apply as_load; first | exact OpR_load' hs rfl rfl is_rfl | exact OpR_load_agg' hs rfl is_rfl)
      | (apply as_add; first | exact OpR_addn rfl rfl (by omega) (by first | (simp only [Int.reduceAdd]; exact rfl) | exact rfl) is_rfl | exact OpR_ibin rfl rfl rfl is_rfl)
      | (apply as_binOp; first | exact OpR_ibin rfl rfl rfl is_rfl | exact OpR_beq rfl rfl is_rfl | exact OpR_bne rfl rfl is_rfl | exact OpR_eqNil rfl rfl is_rfl | exact OpR_neNil rfl rfl is_rfl)
      | (apply as_unOp; first | exact OpR_not rfl is_rfl)
      | (apply as_pick; first | exact OpR_pick_t rfl (by first | assumption | rfl | exact decide_eq_true (by first | assumption | omega) | exact decide_eq_false (by first | assumption | omega)) rfl is_rfl | exact OpR_pick_f rfl (by first | assumption | rfl | exact decide_eq_true (by first | assumption | omega) | exact decide_eq_false (by first | assumption | omega)) rfl is_rfl)
      | (apply as_b_len; first | exact OpR_len rfl is_rfl | exact OpR_len_str rfl is_rfl | exact OpR_len_arr rfl is_rfl)
      | (apply as_extract; first | exact OpR_extract rfl rfl is_rfl)
      | (apply as_indexAddr; first | exact OpR_indexAddr rfl rfl (by omega) (by omega) is_rfl | exact OpR_indexAddr_arr' rfl rfl (by omega) (by omega) (by first | (simp only [Int.reduceToNat, Nat.reduceMul, Nat.reduceAdd]; exact rfl) | exact rfl) is_rfl)
      | (apply as_build; first | exact OpR_build rfl (by (simp only [bld, placesOf, splice, Value.cells, List.take_succ_cons, List.take_zero, List.drop_succ_cons, List.drop_zero, List.cons_append, List.nil_append, List.length_cons, List.length_nil, List.getElem?_cons_zero, List.getElem?_cons_succ, Option.map_some, List.append_nil, Nat.reduceAdd, Nat.reduceMul, Nat.zero_add, Nat.reduceLeDiff, and_self, if_true, List.toList_toArray, Nat.le_refl, Nat.zero_mul, Nat.one_mul]; first | done | rfl)) is_rfl | exact OpR_build_arr rfl (by (simp only [bld, placesOf, splice, Value.cells, List.take_succ_cons, List.take_zero, List.drop_succ_cons, List.drop_zero, List.cons_append, List.nil_append, List.length_cons, List.length_nil, List.getElem?_cons_zero, List.getElem?_cons_succ, Option.map_some, List.append_nil, Nat.reduceAdd, Nat.reduceMul, Nat.zero_add, Nat.reduceLeDiff, and_self, if_true, List.toList_toArray, Nat.le_refl, Nat.zero_mul, Nat.one_mul]; first | done | rfl)) is_rfl)); first | (exact rfl; exact rfl) | exact rfl)
                | (apply J_seq)
                | (apply J_region)
                | (apply J_block)
                | (apply J_inBlock)
                | (apply aj_exit; refine J_exit rfl ?_)
                | (apply J_skip)
                | (apply al_none; (first | (refine JL_o (by apply as_box; exact OpR_box' hs rfl) rfl rfl ?_) | (refine JL_o (by apply as_alloc; exact OpR_alloc' hs) rfl rfl ?_)); rintro _ _ ⟨_, rfl, hb, hs, hE⟩)
                | (apply al_unit; refine JL_u (by apply as_store; exact OpR_store' hs rfl rfl rfl) rfl ?_; rintro _ _ ⟨hs, hF⟩)
                | (apply al_guard; first
    | (refine JL_no rfl (by first | assumption | rfl | exact decide_eq_true (by first | assumption | omega) | exact decide_eq_false (by first | assumption | omega)) rfl ?_)
    | (fail_if_success (apply JL_o_on rfl (by first | assumption | rfl | exact decide_eq_true (by first | assumption | omega) | exact decide_eq_false (by first | assumption | omega)))); first | (refine JL_split_dec rfl (fun _ => ?_) (fun _ => ?_)) | (refine JL_split rfl (fun _ => ?_) (fun _ => ?_)))
                | (apply aj_cond; first | refine J_dec_t rfl (by first | assumption | omega) ?_ | refine J_dec_f rfl (by first | assumption | omega) ?_ | refine J_cond_t rfl (by first | assumption | rfl | exact decide_eq_true (by first | assumption | omega) | exact decide_eq_false (by first | assumption | omega)) ?_ | refine J_cond_f rfl (by first | assumption | rfl | exact decide_eq_true (by first | assumption | omega) | exact decide_eq_false (by first | assumption | omega)) ?_ | (refine J_cond_dec rfl (fun _ => ?_) (fun _ => ?_)) | (refine J_cond rfl (fun _ => ?_) (fun _ => ?_)))
                | (apply aj_draw; first
    | (refine J_draw (id := 22) [0, 0, 3, 7, 0, 16, 0, 0, 192, 496, 1023, 2047, 4095] [(0, false), (1, false), (2, false), (3, false), (4, false), (5, false), (6, false), (7, false), (8, true), (9, true), (10, false)] [11, 12] mixed (by kernel_rfl) (by kernel_rfl) ?_; intro _ hE _; have hs := hs.ext hE)
    | (refine J_draw (id := 39) [0, 1, 0, 4, 0, 0, 60, 127, 255, 511] [(0, false), (1, false), (2, false), (4, false), (5, false), (3, true), (6, true), (7, true)] [8, 9] mixed (by kernel_rfl) (by kernel_rfl) ?_; intro _ hE _; have hs := hs.ext hE)
    | (refine J_draw (id := 44) [0, 0, 2, 7, 15] [(0, false), (1, false), (2, true), (3, true), (4, false)] [] mixed (by kernel_rfl) (by kernel_rfl) ?_; intro _ hE _; have hs := hs.ext hE))
                | (apply JD_done)
                | (apply JD_tail; case' hos => (simp only [List.map_cons, List.map_nil, List.getElem?_toArray, List.getElem?_cons_succ, List.getElem?_cons_zero]; repeat' (first | exact ms_nil | apply ms_cons)))
                | (refine JD_f_off rfl rfl (by first | assumption | rfl | exact decide_eq_true (by first | assumption | omega) | exact decide_eq_false (by first | assumption | omega)) rfl ?_)
                | (refine JD_c_off rfl rfl (by first | assumption | rfl | exact decide_eq_true (by first | assumption | omega) | exact decide_eq_false (by first | assumption | omega)) rfl ?_)
                | (refine JD_split_dec rfl rfl (fun _ => ?_) (fun _ => ?_))
                | (refine JD_split rfl rfl (fun _ => ?_) (fun _ => ?_)))
              refine J.to (ih2 (k2 + 1) _ ⟨hs, by omega⟩ (by omega)) ⟨rfl, rfl, rfl, rfl, rfl, rfl, rfl, rfl, rfl, (by first | exact rfl | exact isv_f (by omega) | exact isv_t (by omega)), rfl, rfl, rfl, trivial⟩
            · repeat' (first
                | ((refine JD_c rfl (OpR_callF en10 rfl (own_r _ Wd Rr a n c ws (h.st hs))) (fun _ _ ⟨_, _, _, h⟩ => h.ext) rfl ?_; rw [← hc0]; rintro _ _ ⟨ao, co, rfl, hf⟩; have hs : St _ _ _ [_, _, _, _, _, _] := hs.fresh hf))
                | ((refine JD_c rfl (OpR_callF en20 rfl (rsame_t _ _ _ _ _ _ _ _ _ _ _ c0 c0 ((hs.row ac c0.length cc).wr hu0) ((hs.row ao c0.length co).wr hu0) ⟨rfl, rfl, rfl⟩)) (fun _ _ h => h.2) rfl ?_; rintro _ _ ⟨rfl, hE⟩; have hs := hs.ext hE))
                | (apply JL_nil)
                | ((first | (apply JL_pure) | (apply JL_pure_on; exact rfl; (first | assumption | exact rfl | exact decide_eq_true (by first | assumption | omega) | exact decide_eq_false (by first | assumption | omega))) | (apply JD_f; exact rfl; exact hs; intro W hE hs) | (apply JD_f_on; exact rfl; exact rfl; (first | assumption | exact rfl | exact decide_eq_true (by first | assumption | omega) | exact decide_eq_false (by first | assumption | omega)); exact hs; intro W hE hs)); (first
      | (apply as_move; first | exact OpR_move rfl is_rfl)
      | (apply as_assign; first | exact OpR_assign rfl is_rfl)
      | (apply as_fieldAddr; first | exact OpR_fieldAddr0 rfl rfl is_rfl | exact OpR_fieldAddr rfl rfl is_rfl)
      | (apply as_load; first | exact OpR_load' hs rfl rfl is_rfl | exact OpR_load_agg' hs rfl is_rfl)
      | (apply as_add; first | exact OpR_addn rfl rfl (by omega) (by first | (simp only [Int.reduceAdd]; exact rfl) | exact rfl) is_rfl | exact OpR_ibin rfl rfl rfl is_rfl)
      | (apply as_binOp; first | exact OpR_ibin rfl rfl rfl is_rfl | exact OpR_beq rfl rfl is_rfl | exact OpR_bne rfl rfl is_rfl | exact OpR_eqNil rfl rfl is_rfl | exact OpR_neNil rfl rfl is_rfl)
      | (apply as_unOp; first | exact OpR_not rfl is_rfl)
      | (apply as_pick; first | exact OpR_pick_t rfl (by first | assumption | rfl | exact decide_eq_true (by first | assumption | omega) | exact decide_eq_false (by first | assumption | omega)) rfl is_rfl | exact OpR_pick_f rfl (by first | assumption | rfl | exact decide_eq_true (by first | assumption | omega) | exact decide_eq_false (by first | assumption | omega)) rfl is_rfl)
      | (apply as_b_len; first | exact OpR_len rfl is_rfl | exact OpR_len_str rfl is_rfl | exact OpR_len_arr rfl is_rfl)
      | (apply as_extract; first | exact OpR_extract rfl rfl is_rfl)
      | (apply as_indexAddr; first | exact OpR_indexAddr rfl rfl (by omega) (by omega) is_rfl | exact OpR_indexAddr_arr' rfl rfl (by omega) (by omega) (by first | (simp only [Int.reduceToNat, Nat.reduceMul, Nat.reduceAdd]; exact rfl) | exact rfl) is_rfl)
      | (apply as_build; first | exact OpR_build rfl (by (simp only [bld, placesOf, splice, Value.cells, List.take_succ_cons, List.take_zero, List.drop_succ_cons, List.drop_zero, List.cons_append, List.nil_append, List.length_cons, List.length_nil, List.getElem?_cons_zero, List.getElem?_cons_succ, Option.map_some, List.append_nil, Nat.reduceAdd, Nat.reduceMul, Nat.zero_add, Nat.reduceLeDiff, and_self, if_true, List.toList_toArray, Nat.le_refl, Nat.zero_mul, Nat.one_mul]; first | done | rfl)) is_rfl | exact OpR_build_arr rfl (by (simp only [bld, placesOf, splice, Value.cells, List.take_succ_cons, List.take_zero, List.drop_succ_cons, List.drop_zero, List.cons_append, List.nil_append, List.length_cons, List.length_nil, List.getElem?_cons_zero, List.getElem?_cons_succ, Option.map_some, List.append_nil, Nat.reduceAdd, Nat.reduceMul, Nat.zero_add, Nat.reduceLeDiff, and_self, if_true, List.toList_toArray, Nat.le_refl, Nat.zero_mul, Nat.one_mul]; first | done | rfl)) is_rfl)); first | (exact rfl; exact rfl) | exact rfl)
                | (apply J_seq)
                | (apply J_region)
                | (apply J_block)
                | (apply J_inBlock)
                | (apply aj_exit; refine J_exit rfl ?_)
                | (apply J_skip)
                | (apply al_none; (first | (refine JL_o (by apply as_box; exact OpR_box' hs rfl) rfl rfl ?_) | (refine JL_o (by apply as_alloc; exact OpR_alloc' hs) rfl rfl ?_)); rintro _ _ ⟨_, rfl, hb, hs, hE⟩)
                | (apply al_unit; refine JL_u (by apply as_store; exact OpR_store' hs rfl rfl rfl) rfl ?_; rintro _ _ ⟨hs, hF⟩)
                | (apply al_guard; first
    | (refine JL_no rfl (by first | assumption | rfl | exact decide_eq_true (by first | assumption | omega) | exact decide_eq_false (by first | assumption | omega)) rfl ?_)
    | (fail_if_success (apply JL_o_on rfl (by first | assumption | rfl | exact decide_eq_true (by first | assumption | omega) | exact decide_eq_false (by first | assumption | omega)))); first | (refine JL_split_dec rfl (fun _ => ?_) (fun _ => ?_)) | (refine JL_split rfl (fun _ => ?_) (fun _ => ?_)))
                | (apply aj_cond; first | refine J_dec_t rfl (by first | assumption | omega) ?_ | refine J_dec_f rfl (by first | assumption | omega) ?_ | refine J_cond_t rfl (by first | assumption | rfl | exact decide_eq_true (by first | assumption | omega) | exact decide_eq_false (by first | assumption | omega)) ?_ | refine J_cond_f rfl (by first | assumption | rfl | exact decide_eq_true (by first | assumption | omega) | exact decide_eq_false (by first | assumption | omega)) ?_ | (refine J_cond_dec rfl (fun _ => ?_) (fun _ => ?_)) | (refine J_cond rfl (fun _ => ?_) (fun _ => ?_)))
                | (apply aj_draw; first
    | (refine J_draw (id := 22) [0, 0, 3, 7, 0, 16, 0, 0, 192, 496, 1023, 2047, 4095] [(0, false), (1, false), (2, false), (3, false), (4, false), (5, false), (6, false), (7, false), (8, true), (9, true), (10, false)] [11, 12] mixed (by kernel_rfl) (by kernel_rfl) ?_; intro _ hE _; have hs := hs.ext hE)
    | (refine J_draw (id := 39) [0, 1, 0, 4, 0, 0, 60, 127, 255, 511] [(0, false), (1, false), (2, false), (4, false), (5, false), (3, true), (6, true), (7, true)] [8, 9] mixed (by kernel_rfl) (by kernel_rfl) ?_; intro _ hE _; have hs := hs.ext hE)
    | (refine J_draw (id := 44) [0, 0, 2, 7, 15] [(0, false), (1, false), (2, true), (3, true), (4, false)] [] mixed (by kernel_rfl) (by kernel_rfl) ?_; intro _ hE _; have hs := hs.ext hE))
                | (apply JD_done)
                | (apply JD_tail; case' hos => (simp only [List.map_cons, List.map_nil, List.getElem?_toArray, List.getElem?_cons_succ, List.getElem?_cons_zero]; repeat' (first | exact ms_nil | apply ms_cons)))
                | (refine JD_f_off rfl rfl (by first | assumption | rfl | exact decide_eq_true (by first | assumption | omega) | exact decide_eq_false (by first | assumption | omega)) rfl ?_)
                | (refine JD_c_off rfl rfl (by first | assumption | rfl | exact decide_eq_true (by first | assumption | omega) | exact decide_eq_false (by first | assumption | omega)) rfl ?_)
                | (refine JD_split_dec rfl rfl (fun _ => ?_) (fun _ => ?_))
                | (refine JD_split rfl rfl (fun _ => ?_) (fun _ => ?_)))
              have hs : St w NoF _ [_, _, _, _, _] := hs.sub (.cons _ (List.Sublist.refl _))
              refine J.to (ih (k + 1) _ ⟨hs, by omega⟩ (by omega)) ⟨rfl, rfl, rfl, rfl, rfl, rfl, rfl, trivial⟩
        by_cases hr1 : Rr ≤ r
        · have hget : getM Wd Rr r c0 = (([] : List Int), 2) := by unfold getM; rw [if_pos hB, if_neg (by omega)]
          have hsw : doesM Wd Rr r c0.length 0 (Rr - 1) (swapW Wd Rr r c0) = (0, 0, ([] : List Int), 2) := by unfold doesM; rw [if_pos hB, if_neg (by omega)]
          have huv : U64 ([] : List Int) := u64_nil
          have hus : U64 ([] : List Int) := u64_nil
          have hvl60 : (([] : List Int)).length ≤ 60 := by simp
          have hsl60 : (([] : List Int)).length ≤ 1000 := by simp
          repeat' (first
            | ((apply al_none; refine JL_o (OpR_callF en14 rfl (get_r _ Wd Rr r ac c0.length cc c0 ((hs.row ac c0.length cc).wr hu0))) rfl rfl ?_; rw [hget]; rintro _ _ ⟨av, cv, rfl, hf⟩; dsimp only at hf ⊢; have hs : St _ _ _ [_, _, _, _, _, _] := hs.fresh hf))
            | ((apply al_none; refine JL_o (OpR_callF en15 rfl (swap_r _ Wd Rr r ac c0.length cc c0 ((hs.row ac c0.length cc).wr hu0))) rfl rfl ?_; rw [hsw]; rintro _ _ ⟨as_, cs_, rfl, hf⟩; dsimp only at hf ⊢; have hs : St _ _ _ [_, _, _, _, _, _, _] := hs.fresh hf))
            | ((refine JL_o_on rfl (by first | assumption | rfl | exact decide_eq_true (by first | assumption | omega) | exact decide_eq_false (by first | assumption | omega)) (OpR_callF en19 rfl (equal19_t _ _ _ _ _ _ _ ([] : List Int) ((hs.row av (([] : List Int)).length cv).wr huv) (wr_nil _))) rfl rfl ?_; rintro _ _ ⟨rfl, hE⟩; have hs := hs.ext hE))
            | ((refine JL_o_on rfl (by first | assumption | rfl | exact decide_eq_true (by first | assumption | omega) | exact decide_eq_false (by first | assumption | omega)) (OpR_callF en20 rfl (rsame_t _ _ _ _ _ _ _ _ _ _ _ ([] : List Int) _ ((hs.row as_ (([] : List Int)).length cs_).wr hus) (wr_nil _) ⟨rfl, rfl, rfl⟩)) rfl rfl ?_; rintro _ _ ⟨rfl, hE⟩; have hs := hs.ext hE))
            | ((apply al_none; have hs : St _ _ _ [_, _, _, _, _, _, _] := hs.sub (.cons _ (.cons _ (List.Sublist.refl _))); refine JL_o (OpR_callF en21 rfl (spoil_r _ _ _ as_ _ cs_ ([] : List Int) (St.held (A := [_]) hs) (by omega))) rfl rfl ?_; rintro _ _ ht; have hs : St _ _ _ [_, _, _, _, _, _] := St.take (A := [_]) (A' := []) hs ht; clear ht))
            | (apply JL_nil)
            | ((first | (apply JL_pure) | (apply JL_pure_on; exact rfl; (first | assumption | exact rfl | exact decide_eq_true (by first | assumption | omega) | exact decide_eq_false (by first | assumption | omega))) | (apply JD_f; exact rfl; exact hs; intro W hE hs) | (apply JD_f_on; exact rfl; exact rfl; (first | assumption | exact rfl | exact decide_eq_true (by first | assumption | omega) | exact decide_eq_false (by first | assumption | omega)); exact hs; intro W hE hs)); (first
      | (apply as_load; exact OpR_load_int (hrows.sl.st hs) rfl hx is_rfl)
      | (apply as_move; first | exact OpR_move rfl is_rfl)
      | (apply as_assign; first | exact OpR_assign rfl is_rfl)
      | (apply as_fieldAddr; first | exact OpR_fieldAddr0 rfl rfl is_rfl | exact OpR_fieldAddr rfl rfl is_rfl)
      | (apply as_load; first | exact OpR_load' hs rfl rfl is_rfl | exact OpR_load_agg' hs rfl is_rfl)
      | (apply as_add; first | exact OpR_addn rfl rfl (by omega) (by first | (simp only [Int.reduceAdd]; exact rfl) | exact rfl) is_rfl | exact OpR_ibin rfl rfl rfl is_rfl)
      | (apply as_binOp; first | exact OpR_ibin rfl rfl rfl is_rfl | exact OpR_beq rfl rfl is_rfl | exact OpR_bne rfl rfl is_rfl | exact OpR_eqNil rfl rfl is_rfl | exact OpR_neNil rfl rfl is_rfl)
      | (apply as_unOp; first | exact OpR_not rfl is_rfl)
      | (apply as_pick; first | exact OpR_pick_t rfl (by first | assumption | rfl | exact decide_eq_true (by first | assumption | omega) | exact decide_eq_false (by first | assumption | omega)) rfl is_rfl | exact OpR_pick_f rfl (by first | assumption | rfl | exact decide_eq_true (by first | assumption | omega) | exact decide_eq_false (by first | assumption | omega)) rfl is_rfl)
      | (apply as_b_len; first | exact OpR_len rfl is_rfl | exact OpR_len_str rfl is_rfl | exact OpR_len_arr rfl is_rfl)
      | (apply as_extract; first | exact OpR_extract rfl rfl is_rfl)
      | (apply as_indexAddr; first | exact OpR_indexAddr rfl rfl (by omega) (by omega) is_rfl | exact OpR_indexAddr_arr' rfl rfl (by omega) (by omega) (by first | (simp only [Int.reduceToNat, Nat.reduceMul, Nat.reduceAdd]; exact rfl) | exact rfl) is_rfl)
      | (apply as_build; first | exact OpR_build rfl (by (simp only [bld, placesOf, splice, Value.cells, List.take_succ_cons, List.take_zero, List.drop_succ_cons, List.drop_zero, List.cons_append, List.nil_append, List.length_cons, List.length_nil, List.getElem?_cons_zero, List.getElem?_cons_succ, Option.map_some, List.append_nil, Nat.reduceAdd, Nat.reduceMul, Nat.zero_add, Nat.reduceLeDiff, and_self, if_true, List.toList_toArray, Nat.le_refl, Nat.zero_mul, Nat.one_mul]; first | done | rfl)) is_rfl | exact OpR_build_arr rfl (by (simp only [bld, placesOf, splice, Value.cells, List.take_succ_cons, List.take_zero, List.drop_succ_cons, List.drop_zero, List.cons_append, List.nil_append, List.length_cons, List.length_nil, List.getElem?_cons_zero, List.getElem?_cons_succ, Option.map_some, List.append_nil, Nat.reduceAdd, Nat.reduceMul, Nat.zero_add, Nat.reduceLeDiff, and_self, if_true, List.toList_toArray, Nat.le_refl, Nat.zero_mul, Nat.one_mul]; first | done | rfl)) is_rfl)); first | (exact rfl; exact rfl) | exact rfl)
            | (apply J_seq)
            | (apply J_region)
            | (apply J_block)
            | (apply J_inBlock)
            | (apply aj_exit; refine J_exit rfl ?_)
            | (apply J_skip)
            | (apply al_none; (first | (refine JL_o (by apply as_box; exact OpR_box' hs rfl) rfl rfl ?_) | (refine JL_o (by apply as_alloc; exact OpR_alloc' hs) rfl rfl ?_)); rintro _ _ ⟨_, rfl, hb, hs, hE⟩)
            | (apply al_unit; refine JL_u (by apply as_store; exact OpR_store' hs rfl rfl rfl) rfl ?_; rintro _ _ ⟨hs, hF⟩)
            | (apply al_guard; first
    | (refine JL_no rfl (by first | assumption | rfl | exact decide_eq_true (by first | assumption | omega) | exact decide_eq_false (by first | assumption | omega)) rfl ?_)
    | (fail_if_success (apply JL_o_on rfl (by first | assumption | rfl | exact decide_eq_true (by first | assumption | omega) | exact decide_eq_false (by first | assumption | omega)))); first | (refine JL_split_dec rfl (fun _ => ?_) (fun _ => ?_)) | (refine JL_split rfl (fun _ => ?_) (fun _ => ?_)))
            | (apply aj_cond; first | refine J_dec_t rfl (by first | assumption | omega) ?_ | refine J_dec_f rfl (by first | assumption | omega) ?_ | refine J_cond_t rfl (by first | assumption | rfl | exact decide_eq_true (by first | assumption | omega) | exact decide_eq_false (by first | assumption | omega)) ?_ | refine J_cond_f rfl (by first | assumption | rfl | exact decide_eq_true (by first | assumption | omega) | exact decide_eq_false (by first | assumption | omega)) ?_ | (refine J_cond_dec rfl (fun _ => ?_) (fun _ => ?_)) | (refine J_cond rfl (fun _ => ?_) (fun _ => ?_)))
            | (apply aj_draw; first
    | (refine J_draw (id := 22) [0, 0, 3, 7, 0, 16, 0, 0, 192, 496, 1023, 2047, 4095] [(0, false), (1, false), (2, false), (3, false), (4, false), (5, false), (6, false), (7, false), (8, true), (9, true), (10, false)] [11, 12] mixed (by kernel_rfl) (by kernel_rfl) ?_; intro _ hE _; have hs := hs.ext hE)
    | (refine J_draw (id := 39) [0, 1, 0, 4, 0, 0, 60, 127, 255, 511] [(0, false), (1, false), (2, false), (4, false), (5, false), (3, true), (6, true), (7, true)] [8, 9] mixed (by kernel_rfl) (by kernel_rfl) ?_; intro _ hE _; have hs := hs.ext hE)
    | (refine J_draw (id := 44) [0, 0, 2, 7, 15] [(0, false), (1, false), (2, true), (3, true), (4, false)] [] mixed (by kernel_rfl) (by kernel_rfl) ?_; intro _ hE _; have hs := hs.ext hE))
            | (apply JD_done)
            | (apply JD_tail; case' hos => (simp only [List.map_cons, List.map_nil, List.getElem?_toArray, List.getElem?_cons_succ, List.getElem?_cons_zero]; repeat' (first | exact ms_nil | apply ms_cons)))
            | (refine JD_f_off rfl rfl (by first | assumption | rfl | exact decide_eq_true (by first | assumption | omega) | exact decide_eq_false (by first | assumption | omega)) rfl ?_)
            | (refine JD_c_off rfl rfl (by first | assumption | rfl | exact decide_eq_true (by first | assumption | omega) | exact decide_eq_false (by first | assumption | omega)) rfl ?_)
            | (refine JD_split_dec rfl rfl (fun _ => ?_) (fun _ => ?_))
            | (refine JD_split rfl rfl (fun _ => ?_) (fun _ => ?_)))
          refine J_loop (α := Nat × List Int) (fun g w' => St w NoF w' [Row av (([] : List Int)).length cv 41 1 (u64s g.2), Row a2 lv.length c2 31 1 cells, Dats Rl (tSl (tInt .u64)) cells lv, Blk b7 (.cells #[.int .i64 Wd, .int .i64 Rr, .slice ac c0.length cc] 24 (0, 0)), Row ac c0.length cc 41 1 (u64s c0), Blk b3 (.cells #[.int .i64 Wd, .int .i64 Rr, .slice a n c] 24 (0, 0))] ∧ g.1 ≤ (([] : List Int)).length ∧ g.2.length = (([] : List Int)).length)
            (fun g => [(2, .slice a2 lv.length c2), (3, ptr b3), (7, ptr b7), (8, .bool true), (38, .slice (some ⟨b, o, none⟩) nr cr), (39, .int .i64 nr), (40, .int .i64 k), (10, .int .i64 r), (17, .int .i64 2), (18, .bool false), (11, .slice av (([] : List Int)).length cv), (107, .int .i64 ((([] : List Int)).length : Nat)), (108, .int .i64 g.1)]) (fun g => (([] : List Int)).length - g.1) (0, ([] : List Int)) ⟨hs, by dsimp only; omega, rfl⟩ ⟨rfl, rfl, rfl, rfl, rfl, rfl, rfl, rfl, rfl, (by first | exact rfl | exact isv_f (by omega) | exact isv_t (by omega)), rfl, rfl, rfl, trivial⟩ ?_
          rintro ⟨j, xs⟩ w2 ⟨hs, hj, hjx⟩ ih1
          dsimp only at hs hj hjx ih1 ⊢
          by_cases hjl : j < (([] : List Int)).length
          · obtain ⟨b9, o9, rfl⟩ := (hs.row av (([] : List Int)).length cv).some (by omega)
            have hcell : (u64s xs)[j]? = some (.int .u64 xs[j]) := by rw [List.getElem?_map, List.getElem?_eq_getElem (by omega)]; rfl
            repeat' (first
              | ((apply al_unit; refine JL_u (by apply as_store; exact OpR_storeRow (b := b9) (o := o9) (i := j) (n := (([] : List Int)).length) (c := cv) hs rfl rfl rfl rfl hjl) rfl ?_; rintro _ _ ⟨hs, hF⟩))
              | (apply JL_nil)
              | ((first | (apply JL_pure) | (apply JL_pure_on; exact rfl; (first | assumption | exact rfl | exact decide_eq_true (by first | assumption | omega) | exact decide_eq_false (by first | assumption | omega))) | (apply JD_f; exact rfl; exact hs; intro W hE hs) | (apply JD_f_on; exact rfl; exact rfl; (first | assumption | exact rfl | exact decide_eq_true (by first | assumption | omega) | exact decide_eq_false (by first | assumption | omega)); exact hs; intro W hE hs)); (first
      | (apply as_load; exact OpR_loadRow (b := b9) (o := o9) (i := j) (n := (([] : List Int)).length) (c := cv) hs rfl hcell is_rfl)
      | (apply as_move; first | exact OpR_move rfl is_rfl)
      | (apply as_assign; first | exact OpR_assign rfl is_rfl)
      | (apply as_fieldAddr; first | exact OpR_fieldAddr0 rfl rfl is_rfl | exact OpR_fieldAddr rfl rfl is_rfl)
      | (apply as_load; first | exact OpR_load' hs rfl rfl is_rfl | exact OpR_load_agg' hs rfl is_rfl)
      | (apply as_add; first | exact OpR_addn rfl rfl (by omega) (by first | (simp only [Int.reduceAdd]; exact rfl) | exact rfl) is_rfl | exact OpR_ibin rfl rfl rfl is_rfl)
      | (apply as_binOp; first | exact OpR_ibin rfl rfl rfl is_rfl | exact OpR_beq rfl rfl is_rfl | exact OpR_bne rfl rfl is_rfl | exact OpR_eqNil rfl rfl is_rfl | exact OpR_neNil rfl rfl is_rfl)
      | (apply as_unOp; first | exact OpR_not rfl is_rfl)
      | (apply as_pick; first | exact OpR_pick_t rfl (by first | assumption | rfl | exact decide_eq_true (by first | assumption | omega) | exact decide_eq_false (by first | assumption | omega)) rfl is_rfl | exact OpR_pick_f rfl (by first | assumption | rfl | exact decide_eq_true (by first | assumption | omega) | exact decide_eq_false (by first | assumption | omega)) rfl is_rfl)
      | (apply as_b_len; first | exact OpR_len rfl is_rfl | exact OpR_len_str rfl is_rfl | exact OpR_len_arr rfl is_rfl)
      | (apply as_extract; first | exact OpR_extract rfl rfl is_rfl)
      | (apply as_indexAddr; first | exact OpR_indexAddr rfl rfl (by omega) (by omega) is_rfl | exact OpR_indexAddr_arr' rfl rfl (by omega) (by omega) (by first | (simp only [Int.reduceToNat, Nat.reduceMul, Nat.reduceAdd]; exact rfl) | exact rfl) is_rfl)
      | (apply as_build; first | exact OpR_build rfl (by (simp only [bld, placesOf, splice, Value.cells, List.take_succ_cons, List.take_zero, List.drop_succ_cons, List.drop_zero, List.cons_append, List.nil_append, List.length_cons, List.length_nil, List.getElem?_cons_zero, List.getElem?_cons_succ, Option.map_some, List.append_nil, Nat.reduceAdd, Nat.reduceMul, Nat.zero_add, Nat.reduceLeDiff, and_self, if_true, List.toList_toArray, Nat.le_refl, Nat.zero_mul, Nat.one_mul]; first | done | rfl)) is_rfl | exact OpR_build_arr rfl (by (simp only [bld, placesOf, splice, Value.cells, List.take_succ_cons, List.take_zero, List.drop_succ_cons, List.drop_zero, List.cons_append, List.nil_append, List.length_cons, List.length_nil, List.getElem?_cons_zero, List.getElem?_cons_succ, Option.map_some, List.append_nil, Nat.reduceAdd, Nat.reduceMul, Nat.zero_add, Nat.reduceLeDiff, and_self, if_true, List.toList_toArray, Nat.le_refl, Nat.zero_mul, Nat.one_mul]; first | done | rfl)) is_rfl)); first | (exact rfl; exact rfl) | exact rfl)
              | (apply J_seq)
              | (apply J_region)
              | (apply J_block)
              | (apply J_inBlock)
              | (apply aj_exit; refine J_exit rfl ?_)
              | (apply J_skip)
              | (apply al_none; (first | (refine JL_o (by apply as_box; exact OpR_box' hs rfl) rfl rfl ?_) | (refine JL_o (by apply as_alloc; exact OpR_alloc' hs) rfl rfl ?_)); rintro _ _ ⟨_, rfl, hb, hs, hE⟩)
              | (apply al_unit; refine JL_u (by apply as_store; exact OpR_store' hs rfl rfl rfl) rfl ?_; rintro _ _ ⟨hs, hF⟩)
              | (apply al_guard; first
    | (refine JL_no rfl (by first | assumption | rfl | exact decide_eq_true (by first | assumption | omega) | exact decide_eq_false (by first | assumption | omega)) rfl ?_)
    | (fail_if_success (apply JL_o_on rfl (by first | assumption | rfl | exact decide_eq_true (by first | assumption | omega) | exact decide_eq_false (by first | assumption | omega)))); first | (refine JL_split_dec rfl (fun _ => ?_) (fun _ => ?_)) | (refine JL_split rfl (fun _ => ?_) (fun _ => ?_)))
              | (apply aj_cond; first | refine J_dec_t rfl (by first | assumption | omega) ?_ | refine J_dec_f rfl (by first | assumption | omega) ?_ | refine J_cond_t rfl (by first | assumption | rfl | exact decide_eq_true (by first | assumption | omega) | exact decide_eq_false (by first | assumption | omega)) ?_ | refine J_cond_f rfl (by first | assumption | rfl | exact decide_eq_true (by first | assumption | omega) | exact decide_eq_false (by first | assumption | omega)) ?_ | (refine J_cond_dec rfl (fun _ => ?_) (fun _ => ?_)) | (refine J_cond rfl (fun _ => ?_) (fun _ => ?_)))
              | (apply aj_draw; first
    | (refine J_draw (id := 22) [0, 0, 3, 7, 0, 16, 0, 0, 192, 496, 1023, 2047, 4095] [(0, false), (1, false), (2, false), (3, false), (4, false), (5, false), (6, false), (7, false), (8, true), (9, true), (10, false)] [11, 12] mixed (by kernel_rfl) (by kernel_rfl) ?_; intro _ hE _; have hs := hs.ext hE)
    | (refine J_draw (id := 39) [0, 1, 0, 4, 0, 0, 60, 127, 255, 511] [(0, false), (1, false), (2, false), (4, false), (5, false), (3, true), (6, true), (7, true)] [8, 9] mixed (by kernel_rfl) (by kernel_rfl) ?_; intro _ hE _; have hs := hs.ext hE)
    | (refine J_draw (id := 44) [0, 0, 2, 7, 15] [(0, false), (1, false), (2, true), (3, true), (4, false)] [] mixed (by kernel_rfl) (by kernel_rfl) ?_; intro _ hE _; have hs := hs.ext hE))
              | (apply JD_done)
              | (apply JD_tail; case' hos => (simp only [List.map_cons, List.map_nil, List.getElem?_toArray, List.getElem?_cons_succ, List.getElem?_cons_zero]; repeat' (first | exact ms_nil | apply ms_cons)))
              | (refine JD_f_off rfl rfl (by first | assumption | rfl | exact decide_eq_true (by first | assumption | omega) | exact decide_eq_false (by first | assumption | omega)) rfl ?_)
              | (refine JD_c_off rfl rfl (by first | assumption | rfl | exact decide_eq_true (by first | assumption | omega) | exact decide_eq_false (by first | assumption | omega)) rfl ?_)
              | (refine JD_split_dec rfl rfl (fun _ => ?_) (fun _ => ?_))
              | (refine JD_split rfl rfl (fun _ => ?_) (fun _ => ?_)))
            refine J.to (ih1 (j + 1, xs.set j _) _ ⟨by dsimp only; rw [u64s_set]; exact hs, by dsimp only; omega, by simpa using hjx⟩ (by dsimp only; omega)) ⟨rfl, rfl, rfl, rfl, rfl, rfl, rfl, rfl, rfl, (by first | exact rfl | exact isv_f (by omega) | exact isv_t (by omega)), rfl, rfl, rfl, trivial⟩
          · repeat' (first
              | (apply JL_nil)
              | ((first | (apply JL_pure) | (apply JL_pure_on; exact rfl; (first | assumption | exact rfl | exact decide_eq_true (by first | assumption | omega) | exact decide_eq_false (by first | assumption | omega))) | (apply JD_f; exact rfl; exact hs; intro W hE hs) | (apply JD_f_on; exact rfl; exact rfl; (first | assumption | exact rfl | exact decide_eq_true (by first | assumption | omega) | exact decide_eq_false (by first | assumption | omega)); exact hs; intro W hE hs)); (first
      | (apply as_move; first | exact OpR_move rfl is_rfl)
      | (apply as_assign; first | exact OpR_assign rfl is_rfl)
      | (apply as_fieldAddr; first | exact OpR_fieldAddr0 rfl rfl is_rfl | exact OpR_fieldAddr rfl rfl is_rfl)
      | (apply as_load; first | exact OpR_load' hs rfl rfl is_rfl | exact OpR_load_agg' hs rfl is_rfl)
      | (apply as_add; first | exact OpR_addn rfl rfl (by omega) (by first | (simp only [Int.reduceAdd]; exact rfl) | exact rfl) is_rfl | exact OpR_ibin rfl rfl rfl is_rfl)
      | (apply as_binOp; first | exact OpR_ibin rfl rfl rfl is_rfl | exact OpR_beq rfl rfl is_rfl | exact OpR_bne rfl rfl is_rfl | exact OpR_eqNil rfl rfl is_rfl | exact OpR_neNil rfl rfl is_rfl)
      | (apply as_unOp; first | exact OpR_not rfl is_rfl)
      | (apply as_pick; first | exact OpR_pick_t rfl (by first | assumption | rfl | exact decide_eq_true (by first | assumption | omega) | exact decide_eq_false (by first | assumption | omega)) rfl is_rfl | exact OpR_pick_f rfl (by first | assumption | rfl | exact decide_eq_true (by first | assumption | omega) | exact decide_eq_false (by first | assumption | omega)) rfl is_rfl)
      | (apply as_b_len; first | exact OpR_len rfl is_rfl | exact OpR_len_str rfl is_rfl | exact OpR_len_arr rfl is_rfl)
      | (apply as_extract; first | exact OpR_extract rfl rfl is_rfl)
      | (apply as_indexAddr; first | exact OpR_indexAddr rfl rfl (by omega) (by omega) is_rfl | exact OpR_indexAddr_arr' rfl rfl (by omega) (by omega) (by first | (simp only [Int.reduceToNat, Nat.reduceMul, Nat.reduceAdd]; exact rfl) | exact rfl) is_rfl)
      | (apply as_build; first | exact OpR_build rfl (by (simp only [bld, placesOf, splice, Value.cells, List.take_succ_cons, List.take_zero, List.drop_succ_cons, List.drop_zero, List.cons_append, List.nil_append, List.length_cons, List.length_nil, List.getElem?_cons_zero, List.getElem?_cons_succ, Option.map_some, List.append_nil, Nat.reduceAdd, Nat.reduceMul, Nat.zero_add, Nat.reduceLeDiff, and_self, if_true, List.toList_toArray, Nat.le_refl, Nat.zero_mul, Nat.one_mul]; first | done | rfl)) is_rfl | exact OpR_build_arr rfl (by (simp only [bld, placesOf, splice, Value.cells, List.take_succ_cons, List.take_zero, List.drop_succ_cons, List.drop_zero, List.cons_append, List.nil_append, List.length_cons, List.length_nil, List.getElem?_cons_zero, List.getElem?_cons_succ, Option.map_some, List.append_nil, Nat.reduceAdd, Nat.reduceMul, Nat.zero_add, Nat.reduceLeDiff, and_self, if_true, List.toList_toArray, Nat.le_refl, Nat.zero_mul, Nat.one_mul]; first | done | rfl)) is_rfl)); first | (exact rfl; exact rfl) | exact rfl)
              | (apply J_seq)
              | (apply J_region)
              | (apply J_block)
              | (apply J_inBlock)
              | (apply aj_exit; refine J_exit rfl ?_)
              | (apply J_skip)
              | (apply al_none; (first | (refine JL_o (by apply as_box; exact OpR_box' hs rfl) rfl rfl ?_) | (refine JL_o (by apply as_alloc; exact OpR_alloc' hs) rfl rfl ?_)); rintro _ _ ⟨_, rfl, hb, hs, hE⟩)
              | (apply al_unit; refine JL_u (by apply as_store; exact OpR_store' hs rfl rfl rfl) rfl ?_; rintro _ _ ⟨hs, hF⟩)
              | (apply al_guard; first
    | (refine JL_no rfl (by first | assumption | rfl | exact decide_eq_true (by first | assumption | omega) | exact decide_eq_false (by first | assumption | omega)) rfl ?_)
    | (fail_if_success (apply JL_o_on rfl (by first | assumption | rfl | exact decide_eq_true (by first | assumption | omega) | exact decide_eq_false (by first | assumption | omega)))); first | (refine JL_split_dec rfl (fun _ => ?_) (fun _ => ?_)) | (refine JL_split rfl (fun _ => ?_) (fun _ => ?_)))
              | (apply aj_cond; first | refine J_dec_t rfl (by first | assumption | omega) ?_ | refine J_dec_f rfl (by first | assumption | omega) ?_ | refine J_cond_t rfl (by first | assumption | rfl | exact decide_eq_true (by first | assumption | omega) | exact decide_eq_false (by first | assumption | omega)) ?_ | refine J_cond_f rfl (by first | assumption | rfl | exact decide_eq_true (by first | assumption | omega) | exact decide_eq_false (by first | assumption | omega)) ?_ | (refine J_cond_dec rfl (fun _ => ?_) (fun _ => ?_)) | (refine J_cond rfl (fun _ => ?_) (fun _ => ?_)))
              | (apply aj_draw; first
    | (refine J_draw (id := 22) [0, 0, 3, 7, 0, 16, 0, 0, 192, 496, 1023, 2047, 4095] [(0, false), (1, false), (2, false), (3, false), (4, false), (5, false), (6, false), (7, false), (8, true), (9, true), (10, false)] [11, 12] mixed (by kernel_rfl) (by kernel_rfl) ?_; intro _ hE _; have hs := hs.ext hE)
    | (refine J_draw (id := 39) [0, 1, 0, 4, 0, 0, 60, 127, 255, 511] [(0, false), (1, false), (2, false), (4, false), (5, false), (3, true), (6, true), (7, true)] [8, 9] mixed (by kernel_rfl) (by kernel_rfl) ?_; intro _ hE _; have hs := hs.ext hE)
    | (refine J_draw (id := 44) [0, 0, 2, 7, 15] [(0, false), (1, false), (2, true), (3, true), (4, false)] [] mixed (by kernel_rfl) (by kernel_rfl) ?_; intro _ hE _; have hs := hs.ext hE))
              | (apply JD_done)
              | (apply JD_tail; case' hos => (simp only [List.map_cons, List.map_nil, List.getElem?_toArray, List.getElem?_cons_succ, List.getElem?_cons_zero]; repeat' (first | exact ms_nil | apply ms_cons)))
              | (refine JD_f_off rfl rfl (by first | assumption | rfl | exact decide_eq_true (by first | assumption | omega) | exact decide_eq_false (by first | assumption | omega)) rfl ?_)
              | (refine JD_c_off rfl rfl (by first | assumption | rfl | exact decide_eq_true (by first | assumption | omega) | exact decide_eq_false (by first | assumption | omega)) rfl ?_)
              | (refine JD_split_dec rfl rfl (fun _ => ?_) (fun _ => ?_))
              | (refine JD_split rfl rfl (fun _ => ?_) (fun _ => ?_)))
            have hs : St w NoF _ [_, _, _, _, _] := hs.sub (.cons _ (List.Sublist.refl _))
            refine J_loop (α := Nat) (fun k w' => St w NoF w' [Row a2 lv.length c2 31 1 cells, Dats Rl (tSl (tInt .u64)) cells lv, Blk b7 (.cells #[.int .i64 Wd, .int .i64 Rr, .slice ac c0.length cc] 24 (0, 0)), Row ac c0.length cc 41 1 (u64s c0), Blk b3 (.cells #[.int .i64 Wd, .int .i64 Rr, .slice a n c] 24 (0, 0))] ∧ k ≤ lv.length)
              (fun k2 => [(2, .slice a2 lv.length c2), (3, ptr b3), (7, ptr b7), (8, .bool true), (38, .slice (some ⟨b, o, none⟩) nr cr), (39, .int .i64 nr), (40, .int .i64 k), (10, .int .i64 r), (17, .int .i64 2), (18, .bool false), (118, .slice a2 lv.length c2), (119, .int .i64 lv.length), (120, .int .i64 k2)]) (fun k => lv.length - k) 0 ⟨hs, by omega⟩ ⟨rfl, rfl, rfl, rfl, rfl, rfl, rfl, rfl, rfl, (by first | exact rfl | exact isv_f (by omega) | exact isv_t (by omega)), rfl, rfl, rfl, trivial⟩ ?_
            rintro k2 w3 ⟨hs, hk2⟩ ih2
            by_cases hkl : k2 < lv.length
            · obtain ⟨b8, o8, rfl⟩ := (hs.row a2 lv.length c2).some (by omega)
              have hxv : lv[k2]? = some lv[k2] := List.getElem?_eq_getElem (by omega)
              obtain ⟨vs, hvs⟩ : ∃ vs, vs = lv[k2] := ⟨_, rfl⟩
              rw [← hvs] at hxv
              obtain ⟨ap, np, cp, hcp⟩ := DatsV.cell (hs.all (Dats Rl (tSl (tInt .u64)) cells lv) (.tail _ (.head _))) hxv
              have hvp := DatsV.wr (hs.all (Dats Rl (tSl (tInt .u64)) cells lv) (.tail _ (.head _))) hcp hxv
              have hnp := hvp.len
              have huvs := hvp.u64
              have hset : setM Wd Rr r c0 vs = (0, 0, ([] : List Int), 2) := by unfold setM doesM; rw [if_pos hB, if_neg (by omega)]
              have hun : U64 ([] : List Int) := u64_nil
              have hnl : ([] : List Int).length ≤ 1000 := by simp
              repeat' (first
                | ((apply al_none; refine JL_o (OpR_callF en22 rfl (set_r _ Wd Rr r ac ap c0.length cc np cp c0 vs ((hs.row ac c0.length cc).wr hu0) (DatsV.wr (hs.all (Dats Rl (tSl (tInt .u64)) cells lv) (.tail _ (.head _))) hcp hxv))) rfl rfl ?_; rw [hset]; rintro _ _ ⟨an, cn, rfl, hf⟩; dsimp only at hf ⊢; have hs : St _ _ _ [_, _, _, _, _, _] := hs.fresh hf))
                | ((refine JL_o_on rfl (by first | assumption | rfl | exact decide_eq_true (by first | assumption | omega) | exact decide_eq_false (by first | assumption | omega)) (OpR_callF en20 rfl (rsame_t _ _ _ _ _ _ _ _ _ _ _ ([] : List Int) _ ((hs.row an (([] : List Int)).length cn).wr hun) (wr_nil _) ⟨rfl, rfl, rfl⟩)) rfl rfl ?_; rintro _ _ ⟨rfl, hE⟩; have hs := hs.ext hE))
                | ((apply al_none; have hs : St _ _ _ [_, _, _, _, _, _] := hs.sub (.cons _ (.cons _ (List.Sublist.refl _))); refine JL_o (OpR_callF en21 rfl (spoil_r _ _ _ an _ cn ([] : List Int) (St.held (A := [_]) hs) (by omega))) rfl rfl ?_; rintro _ _ ht; have hs : St _ _ _ [_, _, _, _, _] := St.take (A := [_]) (A' := []) hs ht; clear ht))
                | (apply JL_nil)
                | ((first | (apply JL_pure) | (apply JL_pure_on; exact rfl; (first | assumption | exact rfl | exact decide_eq_true (by first | assumption | omega) | exact decide_eq_false (by first | assumption | omega))) | (apply JD_f; exact rfl; exact hs; intro W hE hs) | (apply JD_f_on; exact rfl; exact rfl; (first | assumption | exact rfl | exact decide_eq_true (by first | assumption | omega) | exact decide_eq_false (by first | assumption | omega)); exact hs; intro W hE hs)); (first
      | (apply as_load; exact OpR_loadRow (b := b8) (o := o8) (i := k2) (n := lv.length) (c := c2) hs rfl hcp is_rfl)
      | (apply as_move; first | exact OpR_move rfl is_rfl)
      | (apply as_assign; first | exact OpR_assign rfl is_rfl)
      | (apply as_fieldAddr; first | exact OpR_fieldAddr0 rfl rfl is_rfl | exact OpR_fieldAddr rfl rfl is_rfl)
      | (apply as_load; first | exact OpR_load' hs rfl rfl is_rfl | exact OpR_load_agg' hs rfl is_rfl)
      | (apply as_add; first | exact OpR_addn rfl rfl (by omega) (by first | (simp only [Int.reduceAdd]; exact rfl) | exact rfl) is_rfl | exact OpR_ibin rfl rfl rfl is_rfl)
      | (apply as_binOp; first | exact OpR_ibin rfl rfl rfl is_rfl | exact OpR_beq rfl rfl is_rfl | exact OpR_bne rfl rfl is_rfl | exact OpR_eqNil rfl rfl is_rfl | exact OpR_neNil rfl rfl is_rfl)
      | (apply as_unOp; first | exact OpR_not rfl is_rfl)
      | (apply as_pick; first | exact OpR_pick_t rfl (by first | assumption | rfl | exact decide_eq_true (by first | assumption | omega) | exact decide_eq_false (by first | assumption | omega)) rfl is_rfl | exact OpR_pick_f rfl (by first | assumption | rfl | exact decide_eq_true (by first | assumption | omega) | exact decide_eq_false (by first | assumption | omega)) rfl is_rfl)
      | (apply as_b_len; first | exact OpR_len rfl is_rfl | exact OpR_len_str rfl is_rfl | exact OpR_len_arr rfl is_rfl)
      | (apply as_extract; first | exact OpR_extract rfl rfl is_rfl)
      | (apply as_indexAddr; first | exact OpR_indexAddr rfl rfl (by omega) (by omega) is_rfl | exact OpR_indexAddr_arr' rfl rfl (by omega) (by omega) (by first | (simp only [Int.reduceToNat, Nat.reduceMul, Nat.reduceAdd]; exact rfl) | exact rfl) is_rfl)
      | (apply as_build; first | exact OpR_build rfl (by (simp only [bld, placesOf, splice, Value.cells, List.take_succ_cons, List.take_zero, List.drop_succ_cons, List.drop_zero, List.cons_append, List.nil_append, List.length_cons, List.length_nil, List.getElem?_cons_zero, List.getElem?_cons_succ, Option.map_some, List.append_nil, Nat.reduceAdd, Nat.reduceMul, Nat.zero_add, Nat.reduceLeDiff, and_self, if_true, List.toList_toArray, Nat.le_refl, Nat.zero_mul, Nat.one_mul]; first | done | rfl)) is_rfl | exact OpR_build_arr rfl (by (simp only [bld, placesOf, splice, Value.cells, List.take_succ_cons, List.take_zero, List.drop_succ_cons, List.drop_zero, List.cons_append, List.nil_append, List.length_cons, List.length_nil, List.getElem?_cons_zero, List.getElem?_cons_succ, Option.map_some, List.append_nil, Nat.reduceAdd, Nat.reduceMul, Nat.zero_add, Nat.reduceLeDiff, and_self, if_true, List.toList_toArray, Nat.le_refl, Nat.zero_mul, Nat.one_mul]; first | done | rfl)) is_rfl)); first | (exact rfl; exact rfl) | exact rfl)
                | (apply J_seq)
                | (apply J_region)
                | (apply J_block)
                | (apply J_inBlock)
                | (apply aj_exit; refine J_exit rfl ?_)
                | (apply J_skip)
                | (apply al_none; (first | (refine JL_o (by apply as_box; exact OpR_box' hs rfl) rfl rfl ?_) | (refine JL_o (by apply as_alloc; exact OpR_alloc' hs) rfl rfl ?_)); rintro _ _ ⟨_, rfl, hb, hs, hE⟩)
                | (apply al_unit; refine JL_u (by apply as_store; exact OpR_store' hs rfl rfl rfl) rfl ?_; rintro _ _ ⟨hs, hF⟩)
                | (apply al_guard; first
    | (refine JL_no rfl (by first | assumption | rfl | exact decide_eq_true (by first | assumption | omega) | exact decide_eq_false (by first | assumption | omega)) rfl ?_)
    | (fail_if_success (apply JL_o_on rfl (by first | assumption | rfl | exact decide_eq_true (by first | assumption | omega) | exact decide_eq_false (by first | assumption | omega)))); first | (refine JL_split_dec rfl (fun _ => ?_) (fun _ => ?_)) | (refine JL_split rfl (fun _ => ?_) (fun _ => ?_)))
                | (apply aj_cond; first | refine J_dec_t rfl (by first | assumption | omega) ?_ | refine J_dec_f rfl (by first | assumption | omega) ?_ | refine J_cond_t rfl (by first | assumption | rfl | exact decide_eq_true (by first | assumption | omega) | exact decide_eq_false (by first | assumption | omega)) ?_ | refine J_cond_f rfl (by first | assumption | rfl | exact decide_eq_true (by first | assumption | omega) | exact decide_eq_false (by first | assumption | omega)) ?_ | (refine J_cond_dec rfl (fun _ => ?_) (fun _ => ?_)) | (refine J_cond rfl (fun _ => ?_) (fun _ => ?_)))
                | (apply aj_draw; first
    | (refine J_draw (id := 22) [0, 0, 3, 7, 0, 16, 0, 0, 192, 496, 1023, 2047, 4095] [(0, false), (1, false), (2, false), (3, false), (4, false), (5, false), (6, false), (7, false), (8, true), (9, true), (10, false)] [11, 12] mixed (by kernel_rfl) (by kernel_rfl) ?_; intro _ hE _; have hs := hs.ext hE)
    | (refine J_draw (id := 39) [0, 1, 0, 4, 0, 0, 60, 127, 255, 511] [(0, false), (1, false), (2, false), (4, false), (5, false), (3, true), (6, true), (7, true)] [8, 9] mixed (by kernel_rfl) (by kernel_rfl) ?_; intro _ hE _; have hs := hs.ext hE)
    | (refine J_draw (id := 44) [0, 0, 2, 7, 15] [(0, false), (1, false), (2, true), (3, true), (4, false)] [] mixed (by kernel_rfl) (by kernel_rfl) ?_; intro _ hE _; have hs := hs.ext hE))
                | (apply JD_done)
                | (apply JD_tail; case' hos => (simp only [List.map_cons, List.map_nil, List.getElem?_toArray, List.getElem?_cons_succ, List.getElem?_cons_zero]; repeat' (first | exact ms_nil | apply ms_cons)))
                | (refine JD_f_off rfl rfl (by first | assumption | rfl | exact decide_eq_true (by first | assumption | omega) | exact decide_eq_false (by first | assumption | omega)) rfl ?_)
                | (refine JD_c_off rfl rfl (by first | assumption | rfl | exact decide_eq_true (by first | assumption | omega) | exact decide_eq_false (by first | assumption | omega)) rfl ?_)
                | (refine JD_split_dec rfl rfl (fun _ => ?_) (fun _ => ?_))
                | (refine JD_split rfl rfl (fun _ => ?_) (fun _ => ?_)))
              refine J.to (ih2 (k2 + 1) _ ⟨hs, by omega⟩ (by omega)) ⟨rfl, rfl, rfl, rfl, rfl, rfl, rfl, rfl, rfl, (by first | exact rfl | exact isv_f (by omega) | exact isv_t (by omega)), rfl, rfl, rfl, trivial⟩
            · repeat' (first
                | ((refine JD_c rfl (OpR_callF en10 rfl (own_r _ Wd Rr a n c ws (h.st hs))) (fun _ _ ⟨_, _, _, h⟩ => h.ext) rfl ?_; rw [← hc0]; rintro _ _ ⟨ao, co, rfl, hf⟩; have hs : St _ _ _ [_, _, _, _, _, _] := hs.fresh hf))
                | ((refine JD_c rfl (OpR_callF en20 rfl (rsame_t _ _ _ _ _ _ _ _ _ _ _ c0 c0 ((hs.row ac c0.length cc).wr hu0) ((hs.row ao c0.length co).wr hu0) ⟨rfl, rfl, rfl⟩)) (fun _ _ h => h.2) rfl ?_; rintro _ _ ⟨rfl, hE⟩; have hs := hs.ext hE))
                | (apply JL_nil)
                | ((first | (apply JL_pure) | (apply JL_pure_on; exact rfl; (first | assumption | exact rfl | exact decide_eq_true (by first | assumption | omega) | exact decide_eq_false (by first | assumption | omega))) | (apply JD_f; exact rfl; exact hs; intro W hE hs) | (apply JD_f_on; exact rfl; exact rfl; (first | assumption | exact rfl | exact decide_eq_true (by first | assumption | omega) | exact decide_eq_false (by first | assumption | omega)); exact hs; intro W hE hs)); (first
      | (apply as_move; first | exact OpR_move rfl is_rfl)
      | (apply as_assign; first | exact OpR_assign rfl is_rfl)
      | (apply as_fieldAddr; first | exact OpR_fieldAddr0 rfl rfl is_rfl | exact OpR_fieldAddr rfl rfl is_rfl)
      | (apply as_load; first | exact OpR_load' hs rfl rfl is_rfl | exact OpR_load_agg' hs rfl is_rfl)
      | (apply as_add; first | exact OpR_addn rfl rfl (by omega) (by first | (simp only [Int.reduceAdd]; exact rfl) | exact rfl) is_rfl | exact OpR_ibin rfl rfl rfl is_rfl)
      | (apply as_binOp; first | exact OpR_ibin rfl rfl rfl is_rfl | exact OpR_beq rfl rfl is_rfl | exact OpR_bne rfl rfl is_rfl | exact OpR_eqNil rfl rfl is_rfl | exact OpR_neNil rfl rfl is_rfl)
      | (apply as_unOp; first | exact OpR_not rfl is_rfl)
      | (apply as_pick; first | exact OpR_pick_t rfl (by first | assumption | rfl | exact decide_eq_true (by first | assumption | omega) | exact decide_eq_false (by first | assumption | omega)) rfl is_rfl | exact OpR_pick_f rfl (by first | assumption | rfl | exact decide_eq_true (by first | assumption | omega) | exact decide_eq_false (by first | assumption | omega)) rfl is_rfl)
      | (apply as_b_len; first | exact OpR_len rfl is_rfl | exact OpR_len_str rfl is_rfl | exact OpR_len_arr rfl is_rfl)
      | (apply as_extract; first | exact OpR_extract rfl rfl is_rfl)
      | (apply as_indexAddr; first | exact OpR_indexAddr rfl rfl (by omega) (by omega) is_rfl | exact OpR_indexAddr_arr' rfl rfl (by omega) (by omega) (by first | (simp only [Int.reduceToNat, Nat.reduceMul, Nat.reduceAdd]; exact rfl) | exact rfl) is_rfl)
      | (apply as_build; first | exact OpR_build rfl (by (simp only [bld, placesOf, splice, Value.cells, List.take_succ_cons, List.take_zero, List.drop_succ_cons, List.drop_zero, List.cons_append, List.nil_append, List.length_cons, List.length_nil, List.getElem?_cons_zero, List.getElem?_cons_succ, Option.map_some, List.append_nil, Nat.reduceAdd, Nat.reduceMul, Nat.zero_add, Nat.reduceLeDiff, and_self, if_true, List.toList_toArray, Nat.le_refl, Nat.zero_mul, Nat.one_mul]; first | done | rfl)) is_rfl | exact OpR_build_arr rfl (by (simp only [bld, placesOf, splice, Value.cells, List.take_succ_cons, List.take_zero, List.drop_succ_cons, List.drop_zero, List.cons_append, List.nil_append, List.length_cons, List.length_nil, List.getElem?_cons_zero, List.getElem?_cons_succ, Option.map_some, List.append_nil, Nat.reduceAdd, Nat.reduceMul, Nat.zero_add, Nat.reduceLeDiff, and_self, if_true, List.toList_toArray, Nat.le_refl, Nat.zero_mul, Nat.one_mul]; first | done | rfl)) is_rfl)); first | (exact rfl; exact rfl) | exact rfl)
                | (apply J_seq)
                | (apply J_region)
                | (apply J_block)
                | (apply J_inBlock)
                | (apply aj_exit; refine J_exit rfl ?_)
                | (apply J_skip)
                | (apply al_none; (first | (refine JL_o (by apply as_box; exact OpR_box' hs rfl) rfl rfl ?_) | (refine JL_o (by apply as_alloc; exact OpR_alloc' hs) rfl rfl ?_)); rintro _ _ ⟨_, rfl, hb, hs, hE⟩)
                | (apply al_unit; refine JL_u (by apply as_store; exact OpR_store' hs rfl rfl rfl) rfl ?_; rintro _ _ ⟨hs, hF⟩)
                | (apply al_guard; first
    | (refine JL_no rfl (by first | assumption | rfl | exact decide_eq_true (by first | assumption | omega) | exact decide_eq_false (by first | assumption | omega)) rfl ?_)
    | (fail_if_success (apply JL_o_on rfl (by first | assumption | rfl | exact decide_eq_true (by first | assumption | omega) | exact decide_eq_false (by first | assumption | omega)))); first | (refine JL_split_dec rfl (fun _ => ?_) (fun _ => ?_)) | (refine JL_split rfl (fun _ => ?_) (fun _ => ?_)))
                | (apply aj_cond; first | refine J_dec_t rfl (by first | assumption | omega) ?_ | refine J_dec_f rfl (by first | assumption | omega) ?_ | refine J_cond_t rfl (by first | assumption | rfl | exact decide_eq_true (by first | assumption | omega) | exact decide_eq_false (by first | assumption | omega)) ?_ | refine J_cond_f rfl (by first | assumption | rfl | exact decide_eq_true (by first | assumption | omega) | exact decide_eq_false (by first | assumption | omega)) ?_ | (refine J_cond_dec rfl (fun _ => ?_) (fun _ => ?_)) | (refine J_cond rfl (fun _ => ?_) (fun _ => ?_)))
                | (apply aj_draw; first
    | (refine J_draw (id := 22) [0, 0, 3, 7, 0, 16, 0, 0, 192, 496, 1023, 2047, 4095] [(0, false), (1, false), (2, false), (3, false), (4, false), (5, false), (6, false), (7, false), (8, true), (9, true), (10, false)] [11, 12] mixed (by kernel_rfl) (by kernel_rfl) ?_; intro _ hE _; have hs := hs.ext hE)
    | (refine J_draw (id := 39) [0, 1, 0, 4, 0, 0, 60, 127, 255, 511] [(0, false), (1, false), (2, false), (4, false), (5, false), (3, true), (6, true), (7, true)] [8, 9] mixed (by kernel_rfl) (by kernel_rfl) ?_; intro _ hE _; have hs := hs.ext hE)
    | (refine J_draw (id := 44) [0, 0, 2, 7, 15] [(0, false), (1, false), (2, true), (3, true), (4, false)] [] mixed (by kernel_rfl) (by kernel_rfl) ?_; intro _ hE _; have hs := hs.ext hE))
                | (apply JD_done)
                | (apply JD_tail; case' hos => (simp only [List.map_cons, List.map_nil, List.getElem?_toArray, List.getElem?_cons_succ, List.getElem?_cons_zero]; repeat' (first | exact ms_nil | apply ms_cons)))
                | (refine JD_f_off rfl rfl (by first | assumption | rfl | exact decide_eq_true (by first | assumption | omega) | exact decide_eq_false (by first | assumption | omega)) rfl ?_)
                | (refine JD_c_off rfl rfl (by first | assumption | rfl | exact decide_eq_true (by first | assumption | omega) | exact decide_eq_false (by first | assumption | omega)) rfl ?_)
                | (refine JD_split_dec rfl rfl (fun _ => ?_) (fun _ => ?_))
                | (refine JD_split rfl rfl (fun _ => ?_) (fun _ => ?_)))
              have hs : St w NoF _ [_, _, _, _, _] := hs.sub (.cons _ (List.Sublist.refl _))
              refine J.to (ih (k + 1) _ ⟨hs, by omega⟩ (by omega)) ⟨rfl, rfl, rfl, rfl, rfl, rfl, rfl, trivial⟩
        have hget : getM Wd Rr r c0 = ((rowOf Wd r c0), 0) := by unfold getM; rw [if_pos hB, if_pos (by omega)]
        have hsw : doesM Wd Rr r c0.length 0 (Rr - 1) (swapW Wd Rr r c0) = (Wd, (Rr - 1), (swapW Wd Rr r c0), 0) := by unfold doesM; rw [if_pos hB, if_pos (by omega)]; rfl
        have huv : U64 (rowOf Wd r c0) := u64_row hu0
        have hus : U64 (swapW Wd Rr r c0) := u64_swap hu0
        have hvl60 : ((rowOf Wd r c0)).length ≤ 60 := by simp [rowOf]; omega
        have hsl60 : ((swapW Wd Rr r c0)).length ≤ 1000 := by have := colB_W hB; have := row_bd hB (by omega : 0 ≤ r ∧ r < Rr); rw [swapW, List.length_take, spl_length (by simp; omega)]; omega
        have hw := colB_W hB
        have hwf := without_flat hB (by omega : 0 ≤ r ∧ r < Rr)
        have hwl : ((((withoutM (rowsM Wd Rr c0) r.toNat).length : Nat)) : Int) = Rr - 1 := by rw [without_len (by omega)]; omega
        have hrl := rowsM_len Wd Rr c0
        have hgr := rowsM_get (W := Wd) (R := Rr) (ws := c0) (by omega : 0 ≤ r ∧ r < Rr)
        obtain ⟨ri, hri⟩ : ∃ ri, ri = r.toNat := ⟨_, rfl⟩
        repeat' (first
          | ((apply al_none; refine JL_o (OpR_callF en14 rfl (get_r _ Wd Rr r ac c0.length cc c0 ((hs.row ac c0.length cc).wr hu0))) rfl rfl ?_; rw [hget]; rintro _ _ ⟨av, cv, rfl, hf⟩; dsimp only at hf ⊢; have hs : St _ _ _ [_, _, _, _, _, _] := hs.fresh hf))
          | ((apply al_none; refine JL_o (OpR_callF en15 rfl (swap_r _ Wd Rr r ac c0.length cc c0 ((hs.row ac c0.length cc).wr hu0))) rfl rfl ?_; rw [hsw]; rintro _ _ ⟨as_, cs_, rfl, hf⟩; dsimp only at hf ⊢; have hs : St _ _ _ [_, _, _, _, _, _, _] := hs.fresh hf))
          | ((apply al_none; refine JL_o (OpR_callF en16 rfl (rrows_r _ Wd Rr ac c0.length cc c0 ((hs.row ac c0.length cc).wr hu0) hB)) rfl rfl ?_; rintro _ _ ⟨Rq, aq, cq, cellq, rfl, hf⟩; have hs : St _ _ _ [_, _, _, _, _, _, _, _, _, _, _] := hs.fresh hf; obtain ⟨ax, nx, cx, hcx⟩ := DatsV.cell (hs.all (Dats Rq (tSl (tInt .u64)) cellq (rowsM Wd Rr c0)) (.tail _ (.head _))) hgr; obtain ⟨bq, oq, rfl⟩ := (hs.row aq (rowsM Wd Rr c0).length cq).some (by omega)))
          | ((refine JD_c rfl (OpR_callF en18 rfl (rwithout_r _ r (some ⟨bq, oq, none⟩) (rowsM Wd Rr c0).length cq (rowsM Wd Rr c0) ((RowV.slD (hs.row (some ⟨bq, oq, none⟩) (rowsM Wd Rr c0).length cq) (hs.all (Dats Rq (tSl (tInt .u64)) cellq (rowsM Wd Rr c0)) (.tail _ (.head _))) rfl).weak (fun _ _ => trivial)) (by omega) (by omega))) (fun _ _ ⟨_, _, _, h, _⟩ => h) rfl ?_; rintro _ _ ⟨ay, cy, rfl, hE, hy⟩; have hs := hs.ext hE))
          | ((refine JD_c rfl (OpR_callF en17 rfl (rof_r _ Wd ay ((rowsM Wd Rr c0).length - 1) cy (withoutM (rowsM Wd Rr c0) r.toNat) hy (by rw [hwf]; omega) (by omega))) (fun _ _ ⟨_, _, _, h⟩ => h.ext) rfl ?_; rintro _ _ ⟨az, cz, rfl, hf⟩; rw [hwf] at hf ⊢; rw [hwl]; have hs : St _ _ _ [_, _, _, _, _, _, _, _, _, _, _, _] := hs.fresh hf))
          | ((refine JL_o_on rfl (by first | assumption | rfl | exact decide_eq_true (by first | assumption | omega) | exact decide_eq_false (by first | assumption | omega)) (OpR_callF en19 rfl (equal19_t _ _ _ _ _ _ _ (rowOf Wd r c0) ((hs.row av ((rowOf Wd r c0)).length cv).wr huv) ((DatsV.wr (hs.all (Dats Rq (tSl (tInt .u64)) cellq (rowsM Wd Rr c0)) (.tail _ (.tail _ (.head _)))) hcx hgr)))) rfl rfl ?_; rintro _ _ ⟨rfl, hE⟩; have hs := hs.ext hE))
          | ((refine JL_o_on rfl (by first | assumption | rfl | exact decide_eq_true (by first | assumption | omega) | exact decide_eq_false (by first | assumption | omega)) (OpR_callF en20 rfl (rsame_t _ _ _ _ _ _ _ _ _ _ _ (swapW Wd Rr r c0) _ ((hs.row as_ ((swapW Wd Rr r c0)).length cs_).wr hus) ((hs.row az (swapW Wd Rr r c0).length cz).wr hus) ⟨rfl, rfl, rfl⟩)) rfl rfl ?_; rintro _ _ ⟨rfl, hE⟩; have hs := hs.ext hE))
          | ((apply al_none; have hs : St _ _ _ [_, _, _, _, _, _, _] := hs.sub (.cons _ (.cons _ (.cons _ (.cons _ (.cons _ (List.Sublist.refl _)))))); refine JL_o (OpR_callF en21 rfl (spoil_r _ _ _ as_ _ cs_ (swapW Wd Rr r c0) (St.held (A := [_]) hs) (by omega))) rfl rfl ?_; rintro _ _ ht; have hs : St _ _ _ [_, _, _, _, _, _] := St.take (A := [_]) (A' := []) hs ht; clear ht))
          | (apply JL_nil)
          | ((first | (apply JL_pure) | (apply JL_pure_on; exact rfl; (first | assumption | exact rfl | exact decide_eq_true (by first | assumption | omega) | exact decide_eq_false (by first | assumption | omega))) | (apply JD_f; exact rfl; exact hs; intro W hE hs) | (apply JD_f_on; exact rfl; exact rfl; (first | assumption | exact rfl | exact decide_eq_true (by first | assumption | omega) | exact decide_eq_false (by first | assumption | omega)); exact hs; intro W hE hs)); (first
      | (apply as_load; exact OpR_load_int (hrows.sl.st hs) rfl hx is_rfl)
      | (apply as_load; exact OpR_loadRow (b := bq) (o := oq) (i := r.toNat) (n := (rowsM Wd Rr c0).length) (c := cq) hs rfl hcx is_rfl)
      | (apply as_move; first | exact OpR_move rfl is_rfl)
      | (apply as_assign; first | exact OpR_assign rfl is_rfl)
      | (apply as_fieldAddr; first | exact OpR_fieldAddr0 rfl rfl is_rfl | exact OpR_fieldAddr rfl rfl is_rfl)
      | (apply as_load; first | exact OpR_load' hs rfl rfl is_rfl | exact OpR_load_agg' hs rfl is_rfl)
      | (apply as_add; first | exact OpR_addn rfl rfl (by omega) (by first | (simp only [Int.reduceAdd]; exact rfl) | exact rfl) is_rfl | exact OpR_ibin rfl rfl rfl is_rfl)
      | (apply as_binOp; first | exact OpR_ibin rfl rfl rfl is_rfl | exact OpR_beq rfl rfl is_rfl | exact OpR_bne rfl rfl is_rfl | exact OpR_eqNil rfl rfl is_rfl | exact OpR_neNil rfl rfl is_rfl)
      | (apply as_unOp; first | exact OpR_not rfl is_rfl)
      | (apply as_pick; first | exact OpR_pick_t rfl (by first | assumption | rfl | exact decide_eq_true (by first | assumption | omega) | exact decide_eq_false (by first | assumption | omega)) rfl is_rfl | exact OpR_pick_f rfl (by first | assumption | rfl | exact decide_eq_true (by first | assumption | omega) | exact decide_eq_false (by first | assumption | omega)) rfl is_rfl)
      | (apply as_b_len; first | exact OpR_len rfl is_rfl | exact OpR_len_str rfl is_rfl | exact OpR_len_arr rfl is_rfl)
      | (apply as_extract; first | exact OpR_extract rfl rfl is_rfl)
      | (apply as_indexAddr; first | exact OpR_indexAddr rfl rfl (by omega) (by omega) is_rfl | exact OpR_indexAddr_arr' rfl rfl (by omega) (by omega) (by first | (simp only [Int.reduceToNat, Nat.reduceMul, Nat.reduceAdd]; exact rfl) | exact rfl) is_rfl)
      | (apply as_build; first | exact OpR_build rfl (by (simp only [bld, placesOf, splice, Value.cells, List.take_succ_cons, List.take_zero, List.drop_succ_cons, List.drop_zero, List.cons_append, List.nil_append, List.length_cons, List.length_nil, List.getElem?_cons_zero, List.getElem?_cons_succ, Option.map_some, List.append_nil, Nat.reduceAdd, Nat.reduceMul, Nat.zero_add, Nat.reduceLeDiff, and_self, if_true, List.toList_toArray, Nat.le_refl, Nat.zero_mul, Nat.one_mul]; first | done | rfl)) is_rfl | exact OpR_build_arr rfl (by (simp only [bld, placesOf, splice, Value.cells, List.take_succ_cons, List.take_zero, List.drop_succ_cons, List.drop_zero, List.cons_append, List.nil_append, List.length_cons, List.length_nil, List.getElem?_cons_zero, List.getElem?_cons_succ, Option.map_some, List.append_nil, Nat.reduceAdd, Nat.reduceMul, Nat.zero_add, Nat.reduceLeDiff, and_self, if_true, List.toList_toArray, Nat.le_refl, Nat.zero_mul, Nat.one_mul]; first | done | rfl)) is_rfl)); first | (exact rfl; exact rfl) | exact rfl)
          | (apply J_seq)
          | (apply J_region)
          | (apply J_block)
          | (apply J_inBlock)
          | (apply aj_exit; refine J_exit rfl ?_)
          | (apply J_skip)
          | (apply al_none; (first | (refine JL_o (by apply as_box; exact OpR_box' hs rfl) rfl rfl ?_) | (refine JL_o (by apply as_alloc; exact OpR_alloc' hs) rfl rfl ?_)); rintro _ _ ⟨_, rfl, hb, hs, hE⟩)
          | (apply al_unit; refine JL_u (by apply as_store; exact OpR_store' hs rfl rfl rfl) rfl ?_; rintro _ _ ⟨hs, hF⟩)
          | (apply al_guard; first
    | (refine JL_no rfl (by first | assumption | rfl | exact decide_eq_true (by first | assumption | omega) | exact decide_eq_false (by first | assumption | omega)) rfl ?_)
    | (fail_if_success (apply JL_o_on rfl (by first | assumption | rfl | exact decide_eq_true (by first | assumption | omega) | exact decide_eq_false (by first | assumption | omega)))); first | (refine JL_split_dec rfl (fun _ => ?_) (fun _ => ?_)) | (refine JL_split rfl (fun _ => ?_) (fun _ => ?_)))
          | (apply aj_cond; first | refine J_dec_t rfl (by first | assumption | omega) ?_ | refine J_dec_f rfl (by first | assumption | omega) ?_ | refine J_cond_t rfl (by first | assumption | rfl | exact decide_eq_true (by first | assumption | omega) | exact decide_eq_false (by first | assumption | omega)) ?_ | refine J_cond_f rfl (by first | assumption | rfl | exact decide_eq_true (by first | assumption | omega) | exact decide_eq_false (by first | assumption | omega)) ?_ | (refine J_cond_dec rfl (fun _ => ?_) (fun _ => ?_)) | (refine J_cond rfl (fun _ => ?_) (fun _ => ?_)))
          | (apply aj_draw; first
    | (refine J_draw (id := 22) [0, 0, 3, 7, 0, 16, 0, 0, 192, 496, 1023, 2047, 4095] [(0, false), (1, false), (2, false), (3, false), (4, false), (5, false), (6, false), (7, false), (8, true), (9, true), (10, false)] [11, 12] mixed (by kernel_rfl) (by kernel_rfl) ?_; intro _ hE _; have hs := hs.ext hE)
    | (refine J_draw (id := 39) [0, 1, 0, 4, 0, 0, 60, 127, 255, 511] [(0, false), (1, false), (2, false), (4, false), (5, false), (3, true), (6, true), (7, true)] [8, 9] mixed (by kernel_rfl) (by kernel_rfl) ?_; intro _ hE _; have hs := hs.ext hE)
    | (refine J_draw (id := 44) [0, 0, 2, 7, 15] [(0, false), (1, false), (2, true), (3, true), (4, false)] [] mixed (by kernel_rfl) (by kernel_rfl) ?_; intro _ hE _; have hs := hs.ext hE))
          | (apply JD_done)
          | (apply JD_tail; case' hos => (simp only [List.map_cons, List.map_nil, List.getElem?_toArray, List.getElem?_cons_succ, List.getElem?_cons_zero]; repeat' (first | exact ms_nil | apply ms_cons)))
          | (refine JD_f_off rfl rfl (by first | assumption | rfl | exact decide_eq_true (by first | assumption | omega) | exact decide_eq_false (by first | assumption | omega)) rfl ?_)
          | (refine JD_c_off rfl rfl (by first | assumption | rfl | exact decide_eq_true (by first | assumption | omega) | exact decide_eq_false (by first | assumption | omega)) rfl ?_)
          | (refine JD_split_dec rfl rfl (fun _ => ?_) (fun _ => ?_))
          | (refine JD_split rfl rfl (fun _ => ?_) (fun _ => ?_)))
        refine J_loop (α := Nat × List Int) (fun g w' => St w NoF w' [Row av ((rowOf Wd r c0)).length cv 41 1 (u64s g.2), Row a2 lv.length c2 31 1 cells, Dats Rl (tSl (tInt .u64)) cells lv, Blk b7 (.cells #[.int .i64 Wd, .int .i64 Rr, .slice ac c0.length cc] 24 (0, 0)), Row ac c0.length cc 41 1 (u64s c0), Blk b3 (.cells #[.int .i64 Wd, .int .i64 Rr, .slice a n c] 24 (0, 0))] ∧ g.1 ≤ ((rowOf Wd r c0)).length ∧ g.2.length = ((rowOf Wd r c0)).length)
          (fun g => [(2, .slice a2 lv.length c2), (3, ptr b3), (7, ptr b7), (8, .bool true), (38, .slice (some ⟨b, o, none⟩) nr cr), (39, .int .i64 nr), (40, .int .i64 k), (10, .int .i64 r), (17, .int .i64 0), (18, .bool true), (11, .slice av ((rowOf Wd r c0)).length cv), (107, .int .i64 (((rowOf Wd r c0)).length : Nat)), (108, .int .i64 g.1)]) (fun g => ((rowOf Wd r c0)).length - g.1) (0, (rowOf Wd r c0)) ⟨hs, by dsimp only; omega, rfl⟩ ⟨rfl, rfl, rfl, rfl, rfl, rfl, rfl, rfl, rfl, (by first | exact rfl | exact isv_f (by omega) | exact isv_t (by omega)), rfl, rfl, rfl, trivial⟩ ?_
        rintro ⟨j, xs⟩ w2 ⟨hs, hj, hjx⟩ ih1
        dsimp only at hs hj hjx ih1 ⊢
        by_cases hjl : j < ((rowOf Wd r c0)).length
        · obtain ⟨b9, o9, rfl⟩ := (hs.row av ((rowOf Wd r c0)).length cv).some (by omega)
          have hcell : (u64s xs)[j]? = some (.int .u64 xs[j]) := by rw [List.getElem?_map, List.getElem?_eq_getElem (by omega)]; rfl
          repeat' (first
            | ((apply al_unit; refine JL_u (by apply as_store; exact OpR_storeRow (b := b9) (o := o9) (i := j) (n := ((rowOf Wd r c0)).length) (c := cv) hs rfl rfl rfl rfl hjl) rfl ?_; rintro _ _ ⟨hs, hF⟩))
            | (apply JL_nil)
            | ((first | (apply JL_pure) | (apply JL_pure_on; exact rfl; (first | assumption | exact rfl | exact decide_eq_true (by first | assumption | omega) | exact decide_eq_false (by first | assumption | omega))) | (apply JD_f; exact rfl; exact hs; intro W hE hs) | (apply JD_f_on; exact rfl; exact rfl; (first | assumption | exact rfl | exact decide_eq_true (by first | assumption | omega) | exact decide_eq_false (by first | assumption | omega)); exact hs; intro W hE hs)); (first
      | (apply as_load; exact OpR_loadRow (b := b9) (o := o9) (i := j) (n := ((rowOf Wd r c0)).length) (c := cv) hs rfl hcell is_rfl)
      | (apply as_move; first | exact OpR_move rfl is_rfl)
      | (apply as_assign; first | exact OpR_assign rfl is_rfl)
      | (apply as_fieldAddr; first | exact OpR_fieldAddr0 rfl rfl is_rfl | exact OpR_fieldAddr rfl rfl is_rfl)
      | (apply as_load; first | exact OpR_load' hs rfl rfl is_rfl | exact OpR_load_agg' hs rfl is_rfl)
      | (apply as_add; first | exact OpR_addn rfl rfl (by omega) (by first | (simp only [Int.reduceAdd]; exact rfl) | exact rfl) is_rfl | exact OpR_ibin rfl rfl rfl is_rfl)
      | (apply as_binOp; first | exact OpR_ibin rfl rfl rfl is_rfl | exact OpR_beq rfl rfl is_rfl | exact OpR_bne rfl rfl is_rfl | exact OpR_eqNil rfl rfl is_rfl | exact OpR_neNil rfl rfl is_rfl)
      | (apply as_unOp; first | exact OpR_not rfl is_rfl)
      | (apply as_pick; first | exact OpR_pick_t rfl (by first | assumption | rfl | exact decide_eq_true (by first | assumption | omega) | exact decide_eq_false (by first | assumption | omega)) rfl is_rfl | exact OpR_pick_f rfl (by first | assumption | rfl | exact decide_eq_true (by first | assumption | omega) | exact decide_eq_false (by first | assumption | omega)) rfl is_rfl)
      | (apply as_b_len; first | exact OpR_len rfl is_rfl | exact OpR_len_str rfl is_rfl | exact OpR_len_arr rfl is_rfl)
      | (apply as_extract; first | exact OpR_extract rfl rfl is_rfl)
      | (apply as_indexAddr; first | exact OpR_indexAddr rfl rfl (by omega) (by omega) is_rfl | exact OpR_indexAddr_arr' rfl rfl (by omega) (by omega) (by first | (simp only [Int.reduceToNat, Nat.reduceMul, Nat.reduceAdd]; exact rfl) | exact rfl) is_rfl)
      | (apply as_build; first | exact OpR_build rfl (by (simp only [bld, placesOf, splice, Value.cells, List.take_succ_cons, List.take_zero, List.drop_succ_cons, List.drop_zero, List.cons_append, List.nil_append, List.length_cons, List.length_nil, List.getElem?_cons_zero, List.getElem?_cons_succ, Option.map_some, List.append_nil, Nat.reduceAdd, Nat.reduceMul, Nat.zero_add, Nat.reduceLeDiff, and_self, if_true, List.toList_toArray, Nat.le_refl, Nat.zero_mul, Nat.one_mul]; first | done | rfl)) is_rfl | exact OpR_build_arr rfl (by (simp only [bld, placesOf, splice, Value.cells, List.take_succ_cons, List.take_zero, List.drop_succ_cons, List.drop_zero, List.cons_append, List.nil_append, List.length_cons, List.length_nil, List.getElem?_cons_zero, List.getElem?_cons_succ, Option.map_some, List.append_nil, Nat.reduceAdd, Nat.reduceMul, Nat.zero_add, Nat.reduceLeDiff, and_self, if_true, List.toList_toArray, Nat.le_refl, Nat.zero_mul, Nat.one_mul]; first | done | rfl)) is_rfl)); first | (exact rfl; exact rfl) | exact rfl)
            | (apply J_seq)
            | (apply J_region)
            | (apply J_block)
            | (apply J_inBlock)
            | (apply aj_exit; refine J_exit rfl ?_)
            | (apply J_skip)
            | (apply al_none; (first | (refine JL_o (by apply as_box; exact OpR_box' hs rfl) rfl rfl ?_) | (refine JL_o (by apply as_alloc; exact OpR_alloc' hs) rfl rfl ?_)); rintro _ _ ⟨_, rfl, hb, hs, hE⟩)
            | (apply al_unit; refine JL_u (by apply as_store; exact OpR_store' hs rfl rfl rfl) rfl ?_; rintro _ _ ⟨hs, hF⟩)
            | (apply al_guard; first
    | (refine JL_no rfl (by first | assumption | rfl | exact decide_eq_true (by first | assumption | omega) | exact decide_eq_false (by first | assumption | omega)) rfl ?_)
    | (fail_if_success (apply JL_o_on rfl (by first | assumption | rfl | exact decide_eq_true (by first | assumption | omega) | exact decide_eq_false (by first | assumption | omega)))); first | (refine JL_split_dec rfl (fun _ => ?_) (fun _ => ?_)) | (refine JL_split rfl (fun _ => ?_) (fun _ => ?_)))
            | (apply aj_cond; first | refine J_dec_t rfl (by first | assumption | omega) ?_ | refine J_dec_f rfl (by first | assumption | omega) ?_ | refine J_cond_t rfl (by first | assumption | rfl | exact decide_eq_true (by first | assumption | omega) | exact decide_eq_false (by first | assumption | omega)) ?_ | refine J_cond_f rfl (by first | assumption | rfl | exact decide_eq_true (by first | assumption | omega) | exact decide_eq_false (by first | assumption | omega)) ?_ | (refine J_cond_dec rfl (fun _ => ?_) (fun _ => ?_)) | (refine J_cond rfl (fun _ => ?_) (fun _ => ?_)))
            | (apply aj_draw; first
    | (refine J_draw (id := 22) [0, 0, 3, 7, 0, 16, 0, 0, 192, 496, 1023, 2047, 4095] [(0, false), (1, false), (2, false), (3, false), (4, false), (5, false), (6, false), (7, false), (8, true), (9, true), (10, false)] [11, 12] mixed (by kernel_rfl) (by kernel_rfl) ?_; intro _ hE _; have hs := hs.ext hE)
    | (refine J_draw (id := 39) [0, 1, 0, 4, 0, 0, 60, 127, 255, 511] [(0, false), (1, false), (2, false), (4, false), (5, false), (3, true), (6, true), (7, true)] [8, 9] mixed (by kernel_rfl) (by kernel_rfl) ?_; intro _ hE _; have hs := hs.ext hE)
    | (refine J_draw (id := 44) [0, 0, 2, 7, 15] [(0, false), (1, false), (2, true), (3, true), (4, false)] [] mixed (by kernel_rfl) (by kernel_rfl) ?_; intro _ hE _; have hs := hs.ext hE))
            | (apply JD_done)
            | (apply JD_tail; case' hos => (simp only [List.map_cons, List.map_nil, List.getElem?_toArray, List.getElem?_cons_succ, List.getElem?_cons_zero]; repeat' (first | exact ms_nil | apply ms_cons)))
            | (refine JD_f_off rfl rfl (by first | assumption | rfl | exact decide_eq_true (by first | assumption | omega) | exact decide_eq_false (by first | assumption | omega)) rfl ?_)
            | (refine JD_c_off rfl rfl (by first | assumption | rfl | exact decide_eq_true (by first | assumption | omega) | exact decide_eq_false (by first | assumption | omega)) rfl ?_)
            | (refine JD_split_dec rfl rfl (fun _ => ?_) (fun _ => ?_))
            | (refine JD_split rfl rfl (fun _ => ?_) (fun _ => ?_)))
          refine J.to (ih1 (j + 1, xs.set j _) _ ⟨by dsimp only; rw [u64s_set]; exact hs, by dsimp only; omega, by simpa using hjx⟩ (by dsimp only; omega)) ⟨rfl, rfl, rfl, rfl, rfl, rfl, rfl, rfl, rfl, (by first | exact rfl | exact isv_f (by omega) | exact isv_t (by omega)), rfl, rfl, rfl, trivial⟩
        · repeat' (first
            | (apply JL_nil)
            | ((first | (apply JL_pure) | (apply JL_pure_on; exact rfl; (first | assumption | exact rfl | exact decide_eq_true (by first | assumption | omega) | exact decide_eq_false (by first | assumption | omega))) | (apply JD_f; exact rfl; exact hs; intro W hE hs) | (apply JD_f_on; exact rfl; exact rfl; (first | assumption | exact rfl | exact decide_eq_true (by first | assumption | omega) | exact decide_eq_false (by first | assumption | omega)); exact hs; intro W hE hs)); (first
      | (apply as_move; first | exact OpR_move rfl is_rfl)
      | (apply as_assign; first | exact OpR_assign rfl is_rfl)
      | (apply as_fieldAddr; first | exact OpR_fieldAddr0 rfl rfl is_rfl | exact OpR_fieldAddr rfl rfl is_rfl)
      | (apply as_load; first | exact OpR_load' hs rfl rfl is_rfl | exact OpR_load_agg' hs rfl is_rfl)
      | (apply as_add; first | exact OpR_addn rfl rfl (by omega) (by first | (simp only [Int.reduceAdd]; exact rfl) | exact rfl) is_rfl | exact OpR_ibin rfl rfl rfl is_rfl)
      | (apply as_binOp; first | exact OpR_ibin rfl rfl rfl is_rfl | exact OpR_beq rfl rfl is_rfl | exact OpR_bne rfl rfl is_rfl | exact OpR_eqNil rfl rfl is_rfl | exact OpR_neNil rfl rfl is_rfl)
      | (apply as_unOp; first | exact OpR_not rfl is_rfl)
      | (apply as_pick; first | exact OpR_pick_t rfl (by first | assumption | rfl | exact decide_eq_true (by first | assumption | omega) | exact decide_eq_false (by first | assumption | omega)) rfl is_rfl | exact OpR_pick_f rfl (by first | assumption | rfl | exact decide_eq_true (by first | assumption | omega) | exact decide_eq_false (by first | assumption | omega)) rfl is_rfl)
      | (apply as_b_len; first | exact OpR_len rfl is_rfl | exact OpR_len_str rfl is_rfl | exact OpR_len_arr rfl is_rfl)
      | (apply as_extract; first | exact OpR_extract rfl rfl is_rfl)
      | (apply as_indexAddr; first | exact OpR_indexAddr rfl rfl (by omega) (by omega) is_rfl | exact OpR_indexAddr_arr' rfl rfl (by omega) (by omega) (by first | (simp only [Int.reduceToNat, Nat.reduceMul, Nat.reduceAdd]; exact rfl) | exact rfl) is_rfl)
      | (apply as_build; first | exact OpR_build rfl (by (simp only [bld, placesOf, splice, Value.cells, List.take_succ_cons, List.take_zero, List.drop_succ_cons, List.drop_zero, List.cons_append, List.nil_append, List.length_cons, List.length_nil, List.getElem?_cons_zero, List.getElem?_cons_succ, Option.map_some, List.append_nil, Nat.reduceAdd, Nat.reduceMul, Nat.zero_add, Nat.reduceLeDiff, and_self, if_true, List.toList_toArray, Nat.le_refl, Nat.zero_mul, Nat.one_mul]; first | done | rfl)) is_rfl | exact OpR_build_arr rfl (by (simp only [bld, placesOf, splice, Value.cells, List.take_succ_cons, List.take_zero, List.drop_succ_cons, List.drop_zero, List.cons_append, List.nil_append, List.length_cons, List.length_nil, List.getElem?_cons_zero, List.getElem?_cons_succ, Option.map_some, List.append_nil, Nat.reduceAdd, Nat.reduceMul, Nat.zero_add, Nat.reduceLeDiff, and_self, if_true, List.toList_toArray, Nat.le_refl, Nat.zero_mul, Nat.one_mul]; first | done | rfl)) is_rfl)); first | (exact rfl; exact rfl) | exact rfl)
            | (apply J_seq)
            | (apply J_region)
            | (apply J_block)
            | (apply J_inBlock)
            | (apply aj_exit; refine J_exit rfl ?_)
            | (apply J_skip)
            | (apply al_none; (first | (refine JL_o (by apply as_box; exact OpR_box' hs rfl) rfl rfl ?_) | (refine JL_o (by apply as_alloc; exact OpR_alloc' hs) rfl rfl ?_)); rintro _ _ ⟨_, rfl, hb, hs, hE⟩)
            | (apply al_unit; refine JL_u (by apply as_store; exact OpR_store' hs rfl rfl rfl) rfl ?_; rintro _ _ ⟨hs, hF⟩)
            | (apply al_guard; first
    | (refine JL_no rfl (by first | assumption | rfl | exact decide_eq_true (by first | assumption | omega) | exact decide_eq_false (by first | assumption | omega)) rfl ?_)
    | (fail_if_success (apply JL_o_on rfl (by first | assumption | rfl | exact decide_eq_true (by first | assumption | omega) | exact decide_eq_false (by first | assumption | omega)))); first | (refine JL_split_dec rfl (fun _ => ?_) (fun _ => ?_)) | (refine JL_split rfl (fun _ => ?_) (fun _ => ?_)))
            | (apply aj_cond; first | refine J_dec_t rfl (by first | assumption | omega) ?_ | refine J_dec_f rfl (by first | assumption | omega) ?_ | refine J_cond_t rfl (by first | assumption | rfl | exact decide_eq_true (by first | assumption | omega) | exact decide_eq_false (by first | assumption | omega)) ?_ | refine J_cond_f rfl (by first | assumption | rfl | exact decide_eq_true (by first | assumption | omega) | exact decide_eq_false (by first | assumption | omega)) ?_ | (refine J_cond_dec rfl (fun _ => ?_) (fun _ => ?_)) | (refine J_cond rfl (fun _ => ?_) (fun _ => ?_)))
            | (apply aj_draw; first
    | (refine J_draw (id := 22) [0, 0, 3, 7, 0, 16, 0, 0, 192, 496, 1023, 2047, 4095] [(0, false), (1, false), (2, false), (3, false), (4, false), (5, false), (6, false), (7, false), (8, true), (9, true), (10, false)] [11, 12] mixed (by kernel_rfl) (by kernel_rfl) ?_; intro _ hE _; have hs := hs.ext hE)
    | (refine J_draw (id := 39) [0, 1, 0, 4, 0, 0, 60, 127, 255, 511] [(0, false), (1, false), (2, false), (4, false), (5, false), (3, true), (6, true), (7, true)] [8, 9] mixed (by kernel_rfl) (by kernel_rfl) ?_; intro _ hE _; have hs := hs.ext hE)
    | (refine J_draw (id := 44) [0, 0, 2, 7, 15] [(0, false), (1, false), (2, true), (3, true), (4, false)] [] mixed (by kernel_rfl) (by kernel_rfl) ?_; intro _ hE _; have hs := hs.ext hE))
            | (apply JD_done)
            | (apply JD_tail; case' hos => (simp only [List.map_cons, List.map_nil, List.getElem?_toArray, List.getElem?_cons_succ, List.getElem?_cons_zero]; repeat' (first | exact ms_nil | apply ms_cons)))
            | (refine JD_f_off rfl rfl (by first | assumption | rfl | exact decide_eq_true (by first | assumption | omega) | exact decide_eq_false (by first | assumption | omega)) rfl ?_)
            | (refine JD_c_off rfl rfl (by first | assumption | rfl | exact decide_eq_true (by first | assumption | omega) | exact decide_eq_false (by first | assumption | omega)) rfl ?_)
            | (refine JD_split_dec rfl rfl (fun _ => ?_) (fun _ => ?_))
            | (refine JD_split rfl rfl (fun _ => ?_) (fun _ => ?_)))
          have hs : St w NoF _ [_, _, _, _, _] := hs.sub (.cons _ (List.Sublist.refl _))
          refine J_loop (α := Nat) (fun k w' => St w NoF w' [Row a2 lv.length c2 31 1 cells, Dats Rl (tSl (tInt .u64)) cells lv, Blk b7 (.cells #[.int .i64 Wd, .int .i64 Rr, .slice ac c0.length cc] 24 (0, 0)), Row ac c0.length cc 41 1 (u64s c0), Blk b3 (.cells #[.int .i64 Wd, .int .i64 Rr, .slice a n c] 24 (0, 0))] ∧ k ≤ lv.length)
            (fun k2 => [(2, .slice a2 lv.length c2), (3, ptr b3), (7, ptr b7), (8, .bool true), (38, .slice (some ⟨b, o, none⟩) nr cr), (39, .int .i64 nr), (40, .int .i64 k), (10, .int .i64 r), (17, .int .i64 0), (18, .bool true), (118, .slice a2 lv.length c2), (119, .int .i64 lv.length), (120, .int .i64 k2)]) (fun k => lv.length - k) 0 ⟨hs, by omega⟩ ⟨rfl, rfl, rfl, rfl, rfl, rfl, rfl, rfl, rfl, (by first | exact rfl | exact isv_f (by omega) | exact isv_t (by omega)), rfl, rfl, rfl, trivial⟩ ?_
          rintro k2 w3 ⟨hs, hk2⟩ ih2
          by_cases hkl : k2 < lv.length
          · obtain ⟨b8, o8, rfl⟩ := (hs.row a2 lv.length c2).some (by omega)
            have hxv : lv[k2]? = some lv[k2] := List.getElem?_eq_getElem (by omega)
            obtain ⟨vs, hvs⟩ : ∃ vs, vs = lv[k2] := ⟨_, rfl⟩
            rw [← hvs] at hxv
            obtain ⟨ap, np, cp, hcp⟩ := DatsV.cell (hs.all (Dats Rl (tSl (tInt .u64)) cells lv) (.tail _ (.head _))) hxv
            have hvp := DatsV.wr (hs.all (Dats Rl (tSl (tInt .u64)) cells lv) (.tail _ (.head _))) hcp hxv
            have hnp := hvp.len
            have huvs := hvp.u64
            by_cases hvW : (vs.length : Int) = Wd
            · have hset : setM Wd Rr r c0 vs = (Wd, Rr, setW Wd r c0 vs, 0) := by unfold setM doesM; rw [if_pos hB, if_pos (by omega), if_pos hvW]; rfl
              have hun : U64 (setW Wd r c0 vs) := u64_set hu0 huvs
              have hnl : (setW Wd r c0 vs).length ≤ 1000 := by have := row_bd hB (by omega : 0 ≤ r ∧ r < Rr); rw [setW, if_pos hvW, spl_length (by omega)]; omega
              have hwt := with_flat hB (by omega : 0 ≤ r ∧ r < Rr) hvW
              repeat' (first
                | ((apply al_none; refine JL_o (OpR_callF en22 rfl (set_r _ Wd Rr r ac ap c0.length cc np cp c0 vs ((hs.row ac c0.length cc).wr hu0) (DatsV.wr (hs.all (Dats Rl (tSl (tInt .u64)) cells lv) (.tail _ (.head _))) hcp hxv))) rfl rfl ?_; rw [hset]; rintro _ _ ⟨an, cn, rfl, hf⟩; dsimp only at hf ⊢; have hs : St _ _ _ [_, _, _, _, _, _] := hs.fresh hf))
                | ((refine JD_c rfl (OpR_callF en16 rfl (rrows_r _ Wd Rr ac c0.length cc c0 ((hs.row ac c0.length cc).wr hu0) hB)) (fun _ _ ⟨_, _, _, _, _, h⟩ => h.ext) rfl ?_; rintro _ _ ⟨Rq2, aq2, cq2, cellq2, rfl, hf⟩; have hs : St _ _ _ [_, _, _, _, _, _, _, _, _, _] := hs.fresh hf))
                | ((refine JD_c rfl (OpR_callF en23 rfl (rwith_r _ r aq2 ap (rowsM Wd Rr c0).length cq2 np cp (rowsM Wd Rr c0) vs ((RowV.slD (hs.row aq2 (rowsM Wd Rr c0).length cq2) (hs.all (Dats Rq2 (tSl (tInt .u64)) cellq2 (rowsM Wd Rr c0)) (.tail _ (.head _))) rfl).weak (fun _ _ => trivial)) (DatsV.wr (hs.all (Dats Rl (tSl (tInt .u64)) cells lv) (.tail _ (.tail _ (.tail _ (.tail _ (.tail _ (.tail _ (.head _)))))))) hcp hxv) (by omega) (by omega))) (fun _ _ ⟨_, _, _, h, _⟩ => h) rfl ?_; rintro _ _ ⟨ay2, cy2, rfl, hE, hy2⟩; have hs := hs.ext hE))
                | ((refine JD_c rfl (OpR_callF en17 rfl (rof_r _ Wd ay2 (rowsM Wd Rr c0).length cy2 ((rowsM Wd Rr c0).set r.toNat vs) hy2 (by rw [hwt]; omega) (by omega))) (fun _ _ ⟨_, _, _, h⟩ => h.ext) rfl ?_; rintro _ _ ⟨az2, cz2, rfl, hf⟩; rw [hwt] at hf ⊢; rw [List.length_set, hrl, Int.toNat_of_nonneg hw.2.1.1]; have hs : St _ _ _ [_, _, _, _, _, _, _, _, _, _, _] := hs.fresh hf))
                | ((refine JL_o_on rfl (by first | assumption | rfl | exact decide_eq_true (by first | assumption | omega) | exact decide_eq_false (by first | assumption | omega)) (OpR_callF en20 rfl (rsame_t _ _ _ _ _ _ _ _ _ _ _ (setW Wd r c0 vs) _ ((hs.row an ((setW Wd r c0 vs)).length cn).wr hun) ((hs.row az2 (setW Wd r c0 vs).length cz2).wr hun) ⟨rfl, rfl, rfl⟩)) rfl rfl ?_; rintro _ _ ⟨rfl, hE⟩; have hs := hs.ext hE))
                | ((apply al_none; have hs : St _ _ _ [_, _, _, _, _, _] := hs.sub (.cons _ (.cons _ (.cons _ (.cons _ (.cons _ (List.Sublist.refl _)))))); refine JL_o (OpR_callF en21 rfl (spoil_r _ _ _ an _ cn (setW Wd r c0 vs) (St.held (A := [_]) hs) (by omega))) rfl rfl ?_; rintro _ _ ht; have hs : St _ _ _ [_, _, _, _, _] := St.take (A := [_]) (A' := []) hs ht; clear ht))
                | (apply JL_nil)
                | ((first | (apply JL_pure) | (apply JL_pure_on; exact rfl; (first | assumption | exact rfl | exact decide_eq_true (by first | assumption | omega) | exact decide_eq_false (by first | assumption | omega))) | (apply JD_f; exact rfl; exact hs; intro W hE hs) | (apply JD_f_on; exact rfl; exact rfl; (first | assumption | exact rfl | exact decide_eq_true (by first | assumption | omega) | exact decide_eq_false (by first | assumption | omega)); exact hs; intro W hE hs)); (first
      | (apply as_load; exact OpR_loadRow (b := b8) (o := o8) (i := k2) (n := lv.length) (c := c2) hs rfl hcp is_rfl)
      | (apply as_move; first | exact OpR_move rfl is_rfl)
      | (apply as_assign; first | exact OpR_assign rfl is_rfl)
      | (apply as_fieldAddr; first | exact OpR_fieldAddr0 rfl rfl is_rfl | exact OpR_fieldAddr rfl rfl is_rfl)
      | (apply as_load; first | exact OpR_load' hs rfl rfl is_rfl | exact OpR_load_agg' hs rfl is_rfl)
      | (apply as_add; first | exact OpR_addn rfl rfl (by omega) (by first | (simp only [Int.reduceAdd]; exact rfl) | exact rfl) is_rfl | exact OpR_ibin rfl rfl rfl is_rfl)
      | (apply as_binOp; first | exact OpR_ibin rfl rfl rfl is_rfl | exact OpR_beq rfl rfl is_rfl | exact OpR_bne rfl rfl is_rfl | exact OpR_eqNil rfl rfl is_rfl | exact OpR_neNil rfl rfl is_rfl)
      | (apply as_unOp; first | exact OpR_not rfl is_rfl)
      | (apply as_pick; first | exact OpR_pick_t rfl (by first | assumption | rfl | exact decide_eq_true (by first | assumption | omega) | exact decide_eq_false (by first | assumption | omega)) rfl is_rfl | exact OpR_pick_f rfl (by first | assumption | rfl | exact decide_eq_true (by first | assumption | omega) | exact decide_eq_false (by first | assumption | omega)) rfl is_rfl)
      | (apply as_b_len; first | exact OpR_len rfl is_rfl | exact OpR_len_str rfl is_rfl | exact OpR_len_arr rfl is_rfl)
      | (apply as_extract; first | exact OpR_extract rfl rfl is_rfl)
      | (apply as_indexAddr; first | exact OpR_indexAddr rfl rfl (by omega) (by omega) is_rfl | exact OpR_indexAddr_arr' rfl rfl (by omega) (by omega) (by first | (simp only [Int.reduceToNat, Nat.reduceMul, Nat.reduceAdd]; exact rfl) | exact rfl) is_rfl)
      | (apply as_build; first | exact OpR_build rfl (by (simp only [bld, placesOf, splice, Value.cells, List.take_succ_cons, List.take_zero, List.drop_succ_cons, List.drop_zero, List.cons_append, List.nil_append, List.length_cons, List.length_nil, List.getElem?_cons_zero, List.getElem?_cons_succ, Option.map_some, List.append_nil, Nat.reduceAdd, Nat.reduceMul, Nat.zero_add, Nat.reduceLeDiff, and_self, if_true, List.toList_toArray, Nat.le_refl, Nat.zero_mul, Nat.one_mul]; first | done | rfl)) is_rfl | exact OpR_build_arr rfl (by (simp only [bld, placesOf, splice, Value.cells, List.take_succ_cons, List.take_zero, List.drop_succ_cons, List.drop_zero, List.cons_append, List.nil_append, List.length_cons, List.length_nil, List.getElem?_cons_zero, List.getElem?_cons_succ, Option.map_some, List.append_nil, Nat.reduceAdd, Nat.reduceMul, Nat.zero_add, Nat.reduceLeDiff, and_self, if_true, List.toList_toArray, Nat.le_refl, Nat.zero_mul, Nat.one_mul]; first | done | rfl)) is_rfl)); first | (exact rfl; exact rfl) | exact rfl)
                | (apply J_seq)
                | (apply J_region)
                | (apply J_block)
                | (apply J_inBlock)
                | (apply aj_exit; refine J_exit rfl ?_)
                | (apply J_skip)
                | (apply al_none; (first | (refine JL_o (by apply as_box; exact OpR_box' hs rfl) rfl rfl ?_) | (refine JL_o (by apply as_alloc; exact OpR_alloc' hs) rfl rfl ?_)); rintro _ _ ⟨_, rfl, hb, hs, hE⟩)
                | (apply al_unit; refine JL_u (by apply as_store; exact OpR_store' hs rfl rfl rfl) rfl ?_; rintro _ _ ⟨hs, hF⟩)
                | (apply al_guard; first
    | (refine JL_no rfl (by first | assumption | rfl | exact decide_eq_true (by first | assumption | omega) | exact decide_eq_false (by first | assumption | omega)) rfl ?_)
    | (fail_if_success (apply JL_o_on rfl (by first | assumption | rfl | exact decide_eq_true (by first | assumption | omega) | exact decide_eq_false (by first | assumption | omega)))); first | (refine JL_split_dec rfl (fun _ => ?_) (fun _ => ?_)) | (refine JL_split rfl (fun _ => ?_) (fun _ => ?_)))
                | (apply aj_cond; first | refine J_dec_t rfl (by first | assumption | omega) ?_ | refine J_dec_f rfl (by first | assumption | omega) ?_ | refine J_cond_t rfl (by first | assumption | rfl | exact decide_eq_true (by first | assumption | omega) | exact decide_eq_false (by first | assumption | omega)) ?_ | refine J_cond_f rfl (by first | assumption | rfl | exact decide_eq_true (by first | assumption | omega) | exact decide_eq_false (by first | assumption | omega)) ?_ | (refine J_cond_dec rfl (fun _ => ?_) (fun _ => ?_)) | (refine J_cond rfl (fun _ => ?_) (fun _ => ?_)))
                | (apply aj_draw; first
    | (refine J_draw (id := 22) [0, 0, 3, 7, 0, 16, 0, 0, 192, 496, 1023, 2047, 4095] [(0, false), (1, false), (2, false), (3, false), (4, false), (5, false), (6, false), (7, false), (8, true), (9, true), (10, false)] [11, 12] mixed (by kernel_rfl) (by kernel_rfl) ?_; intro _ hE _; have hs := hs.ext hE)
    | (refine J_draw (id := 39) [0, 1, 0, 4, 0, 0, 60, 127, 255, 511] [(0, false), (1, false), (2, false), (4, false), (5, false), (3, true), (6, true), (7, true)] [8, 9] mixed (by kernel_rfl) (by kernel_rfl) ?_; intro _ hE _; have hs := hs.ext hE)
    | (refine J_draw (id := 44) [0, 0, 2, 7, 15] [(0, false), (1, false), (2, true), (3, true), (4, false)] [] mixed (by kernel_rfl) (by kernel_rfl) ?_; intro _ hE _; have hs := hs.ext hE))
                | (apply JD_done)
                | (apply JD_tail; case' hos => (simp only [List.map_cons, List.map_nil, List.getElem?_toArray, List.getElem?_cons_succ, List.getElem?_cons_zero]; repeat' (first | exact ms_nil | apply ms_cons)))
                | (refine JD_f_off rfl rfl (by first | assumption | rfl | exact decide_eq_true (by first | assumption | omega) | exact decide_eq_false (by first | assumption | omega)) rfl ?_)
                | (refine JD_c_off rfl rfl (by first | assumption | rfl | exact decide_eq_true (by first | assumption | omega) | exact decide_eq_false (by first | assumption | omega)) rfl ?_)
                | (refine JD_split_dec rfl rfl (fun _ => ?_) (fun _ => ?_))
                | (refine JD_split rfl rfl (fun _ => ?_) (fun _ => ?_)))
              refine J.to (ih2 (k2 + 1) _ ⟨hs, by omega⟩ (by omega)) ⟨rfl, rfl, rfl, rfl, rfl, rfl, rfl, rfl, rfl, (by first | exact rfl | exact isv_f (by omega) | exact isv_t (by omega)), rfl, rfl, rfl, trivial⟩
            · have hset : setM Wd Rr r c0 vs = (0, 0, ([] : List Int), 140) := by unfold setM doesM; rw [if_pos hB, if_pos (by omega), if_neg hvW]; rfl
              have hun : U64 ([] : List Int) := u64_nil
              have hnl : ([] : List Int).length ≤ 1000 := by simp
              repeat' (first
                | ((apply al_none; refine JL_o (OpR_callF en22 rfl (set_r _ Wd Rr r ac ap c0.length cc np cp c0 vs ((hs.row ac c0.length cc).wr hu0) (DatsV.wr (hs.all (Dats Rl (tSl (tInt .u64)) cells lv) (.tail _ (.head _))) hcp hxv))) rfl rfl ?_; rw [hset]; rintro _ _ ⟨an, cn, rfl, hf⟩; dsimp only at hf ⊢; have hs : St _ _ _ [_, _, _, _, _, _] := hs.fresh hf))
                | ((refine JL_o_on rfl (by first | assumption | rfl | exact decide_eq_true (by first | assumption | omega) | exact decide_eq_false (by first | assumption | omega)) (OpR_callF en20 rfl (rsame_t _ _ _ _ _ _ _ _ _ _ _ ([] : List Int) _ ((hs.row an (([] : List Int)).length cn).wr hun) (wr_nil _) ⟨rfl, rfl, rfl⟩)) rfl rfl ?_; rintro _ _ ⟨rfl, hE⟩; have hs := hs.ext hE))
                | ((apply al_none; have hs : St _ _ _ [_, _, _, _, _, _] := hs.sub (.cons _ (.cons _ (List.Sublist.refl _))); refine JL_o (OpR_callF en21 rfl (spoil_r _ _ _ an _ cn ([] : List Int) (St.held (A := [_]) hs) (by omega))) rfl rfl ?_; rintro _ _ ht; have hs : St _ _ _ [_, _, _, _, _] := St.take (A := [_]) (A' := []) hs ht; clear ht))
                | (apply JL_nil)
                | ((first | (apply JL_pure) | (apply JL_pure_on; exact rfl; (first | assumption | exact rfl | exact decide_eq_true (by first | assumption | omega) | exact decide_eq_false (by first | assumption | omega))) | (apply JD_f; exact rfl; exact hs; intro W hE hs) | (apply JD_f_on; exact rfl; exact rfl; (first | assumption | exact rfl | exact decide_eq_true (by first | assumption | omega) | exact decide_eq_false (by first | assumption | omega)); exact hs; intro W hE hs)); (first
      | (apply as_load; exact OpR_loadRow (b := b8) (o := o8) (i := k2) (n := lv.length) (c := c2) hs rfl hcp is_rfl)
      | (apply as_move; first | exact OpR_move rfl is_rfl)
      | (apply as_assign; first | exact OpR_assign rfl is_rfl)
      | (apply as_fieldAddr; first | exact OpR_fieldAddr0 rfl rfl is_rfl | exact OpR_fieldAddr rfl rfl is_rfl)
      | (apply as_load; first | exact OpR_load' hs rfl rfl is_rfl | exact OpR_load_agg' hs rfl is_rfl)
      | (apply as_add; first | exact OpR_addn rfl rfl (by omega) (by first | (simp only [Int.reduceAdd]; exact rfl) | exact rfl) is_rfl | exact OpR_ibin rfl rfl rfl is_rfl)
      | (apply as_binOp; first | exact OpR_ibin rfl rfl rfl is_rfl | exact OpR_beq rfl rfl is_rfl | exact OpR_bne rfl rfl is_rfl | exact OpR_eqNil rfl rfl is_rfl | exact OpR_neNil rfl rfl is_rfl)
      | (apply as_unOp; first | exact OpR_not rfl is_rfl)
      | (apply as_pick; first | exact OpR_pick_t rfl (by first | assumption | rfl | exact decide_eq_true (by first | assumption | omega) | exact decide_eq_false (by first | assumption | omega)) rfl is_rfl | exact OpR_pick_f rfl (by first | assumption | rfl | exact decide_eq_true (by first | assumption | omega) | exact decide_eq_false (by first | assumption | omega)) rfl is_rfl)
      | (apply as_b_len; first | exact OpR_len rfl is_rfl | exact OpR_len_str rfl is_rfl | exact OpR_len_arr rfl is_rfl)
      | (apply as_extract; first | exact OpR_extract rfl rfl is_rfl)
      | (apply as_indexAddr; first | exact OpR_indexAddr rfl rfl (by omega) (by omega) is_rfl | exact OpR_indexAddr_arr' rfl rfl (by omega) (by omega) (by first | (simp only [Int.reduceToNat, Nat.reduceMul, Nat.reduceAdd]; exact rfl) | exact rfl) is_rfl)
      | (apply as_build; first | exact OpR_build rfl (by (simp only [bld, placesOf, splice, Value.cells, List.take_succ_cons, List.take_zero, List.drop_succ_cons, List.drop_zero, List.cons_append, List.nil_append, List.length_cons, List.length_nil, List.getElem?_cons_zero, List.getElem?_cons_succ, Option.map_some, List.append_nil, Nat.reduceAdd, Nat.reduceMul, Nat.zero_add, Nat.reduceLeDiff, and_self, if_true, List.toList_toArray, Nat.le_refl, Nat.zero_mul, Nat.one_mul]; first | done | rfl)) is_rfl | exact OpR_build_arr rfl (by (simp only [bld, placesOf, splice, Value.cells, List.take_succ_cons, List.take_zero, List.drop_succ_cons, List.drop_zero, List.cons_append, List.nil_append, List.length_cons, List.length_nil, List.getElem?_cons_zero, List.getElem?_cons_succ, Option.map_some, List.append_nil, Nat.reduceAdd, Nat.reduceMul, Nat.zero_add, Nat.reduceLeDiff, and_self, if_true, List.toList_toArray, Nat.le_refl, Nat.zero_mul, Nat.one_mul]; first | done | rfl)) is_rfl)); first | (exact rfl; exact rfl) | exact rfl)
                | (apply J_seq)
                | (apply J_region)
                | (apply J_block)
                | (apply J_inBlock)
                | (apply aj_exit; refine J_exit rfl ?_)
                | (apply J_skip)
                | (apply al_none; (first | (refine JL_o (by apply as_box; exact OpR_box' hs rfl) rfl rfl ?_) | (refine JL_o (by apply as_alloc; exact OpR_alloc' hs) rfl rfl ?_)); rintro _ _ ⟨_, rfl, hb, hs, hE⟩)
                | (apply al_unit; refine JL_u (by apply as_store; exact OpR_store' hs rfl rfl rfl) rfl ?_; rintro _ _ ⟨hs, hF⟩)
                | (apply al_guard; first
    | (refine JL_no rfl (by first | assumption | rfl | exact decide_eq_true (by first | assumption | omega) | exact decide_eq_false (by first | assumption | omega)) rfl ?_)
    | (fail_if_success (apply JL_o_on rfl (by first | assumption | rfl | exact decide_eq_true (by first | assumption | omega) | exact decide_eq_false (by first | assumption | omega)))); first | (refine JL_split_dec rfl (fun _ => ?_) (fun _ => ?_)) | (refine JL_split rfl (fun _ => ?_) (fun _ => ?_)))
                | (apply aj_cond; first | refine J_dec_t rfl (by first | assumption | omega) ?_ | refine J_dec_f rfl (by first | assumption | omega) ?_ | refine J_cond_t rfl (by first | assumption | rfl | exact decide_eq_true (by first | assumption | omega) | exact decide_eq_false (by first | assumption | omega)) ?_ | refine J_cond_f rfl (by first | assumption | rfl | exact decide_eq_true (by first | assumption | omega) | exact decide_eq_false (by first | assumption | omega)) ?_ | (refine J_cond_dec rfl (fun _ => ?_) (fun _ => ?_)) | (refine J_cond rfl (fun _ => ?_) (fun _ => ?_)))
                | (apply aj_draw; first
    | (refine J_draw (id := 22) [0, 0, 3, 7, 0, 16, 0, 0, 192, 496, 1023, 2047, 4095] [(0, false), (1, false), (2, false), (3, false), (4, false), (5, false), (6, false), (7, false), (8, true), (9, true), (10, false)] [11, 12] mixed (by kernel_rfl) (by kernel_rfl) ?_; intro _ hE _; have hs := hs.ext hE)
    | (refine J_draw (id := 39) [0, 1, 0, 4, 0, 0, 60, 127, 255, 511] [(0, false), (1, false), (2, false), (4, false), (5, false), (3, true), (6, true), (7, true)] [8, 9] mixed (by kernel_rfl) (by kernel_rfl) ?_; intro _ hE _; have hs := hs.ext hE)
    | (refine J_draw (id := 44) [0, 0, 2, 7, 15] [(0, false), (1, false), (2, true), (3, true), (4, false)] [] mixed (by kernel_rfl) (by kernel_rfl) ?_; intro _ hE _; have hs := hs.ext hE))
                | (apply JD_done)
                | (apply JD_tail; case' hos => (simp only [List.map_cons, List.map_nil, List.getElem?_toArray, List.getElem?_cons_succ, List.getElem?_cons_zero]; repeat' (first | exact ms_nil | apply ms_cons)))
                | (refine JD_f_off rfl rfl (by first | assumption | rfl | exact decide_eq_true (by first | assumption | omega) | exact decide_eq_false (by first | assumption | omega)) rfl ?_)
                | (refine JD_c_off rfl rfl (by first | assumption | rfl | exact decide_eq_true (by first | assumption | omega) | exact decide_eq_false (by first | assumption | omega)) rfl ?_)
                | (refine JD_split_dec rfl rfl (fun _ => ?_) (fun _ => ?_))
                | (refine JD_split rfl rfl (fun _ => ?_) (fun _ => ?_)))
              refine J.to (ih2 (k2 + 1) _ ⟨hs, by omega⟩ (by omega)) ⟨rfl, rfl, rfl, rfl, rfl, rfl, rfl, rfl, rfl, (by first | exact rfl | exact isv_f (by omega) | exact isv_t (by omega)), rfl, rfl, rfl, trivial⟩
          · repeat' (first
              | ((refine JD_c rfl (OpR_callF en10 rfl (own_r _ Wd Rr a n c ws (h.st hs))) (fun _ _ ⟨_, _, _, h⟩ => h.ext) rfl ?_; rw [← hc0]; rintro _ _ ⟨ao, co, rfl, hf⟩; have hs : St _ _ _ [_, _, _, _, _, _] := hs.fresh hf))
              | ((refine JD_c rfl (OpR_callF en20 rfl (rsame_t _ _ _ _ _ _ _ _ _ _ _ c0 c0 ((hs.row ac c0.length cc).wr hu0) ((hs.row ao c0.length co).wr hu0) ⟨rfl, rfl, rfl⟩)) (fun _ _ h => h.2) rfl ?_; rintro _ _ ⟨rfl, hE⟩; have hs := hs.ext hE))
              | (apply JL_nil)
              | ((first | (apply JL_pure) | (apply JL_pure_on; exact rfl; (first | assumption | exact rfl | exact decide_eq_true (by first | assumption | omega) | exact decide_eq_false (by first | assumption | omega))) | (apply JD_f; exact rfl; exact hs; intro W hE hs) | (apply JD_f_on; exact rfl; exact rfl; (first | assumption | exact rfl | exact decide_eq_true (by first | assumption | omega) | exact decide_eq_false (by first | assumption | omega)); exact hs; intro W hE hs)); (first
      | (apply as_move; first | exact OpR_move rfl is_rfl)
      | (apply as_assign; first | exact OpR_assign rfl is_rfl)
      | (apply as_fieldAddr; first | exact OpR_fieldAddr0 rfl rfl is_rfl | exact OpR_fieldAddr rfl rfl is_rfl)
      | (apply as_load; first | exact OpR_load' hs rfl rfl is_rfl | exact OpR_load_agg' hs rfl is_rfl)
      | (apply as_add; first | exact OpR_addn rfl rfl (by omega) (by first | (simp only [Int.reduceAdd]; exact rfl) | exact rfl) is_rfl | exact OpR_ibin rfl rfl rfl is_rfl)
      | (apply as_binOp; first | exact OpR_ibin rfl rfl rfl is_rfl | exact OpR_beq rfl rfl is_rfl | exact OpR_bne rfl rfl is_rfl | exact OpR_eqNil rfl rfl is_rfl | exact OpR_neNil rfl rfl is_rfl)
      | (apply as_unOp; first | exact OpR_not rfl is_rfl)
      | (apply as_pick; first | exact OpR_pick_t rfl (by first | assumption | rfl | exact decide_eq_true (by first | assumption | omega) | exact decide_eq_false (by first | assumption | omega)) rfl is_rfl | exact OpR_pick_f rfl (by first | assumption | rfl | exact decide_eq_true (by first | assumption | omega) | exact decide_eq_false (by first | assumption | omega)) rfl is_rfl)
      | (apply as_b_len; first | exact OpR_len rfl is_rfl | exact OpR_len_str rfl is_rfl | exact OpR_len_arr rfl is_rfl)
      | (apply as_extract; first | exact OpR_extract rfl rfl is_rfl)
      | (apply as_indexAddr; first | exact OpR_indexAddr rfl rfl (by omega) (by omega) is_rfl | exact OpR_indexAddr_arr' rfl rfl (by omega) (by omega) (by first | (simp only [Int.reduceToNat, Nat.reduceMul, Nat.reduceAdd]; exact rfl) | exact rfl) is_rfl)
      | (apply as_build; first | exact OpR_build rfl (by (simp only [bld, placesOf, splice, Value.cells, List.take_succ_cons, List.take_zero, List.drop_succ_cons, List.drop_zero, List.cons_append, List.nil_append, List.length_cons, List.length_nil, List.getElem?_cons_zero, List.getElem?_cons_succ, Option.map_some, List.append_nil, Nat.reduceAdd, Nat.reduceMul, Nat.zero_add, Nat.reduceLeDiff, and_self, if_true, List.toList_toArray, Nat.le_refl, Nat.zero_mul, Nat.one_mul]; first | done | rfl)) is_rfl | exact OpR_build_arr rfl (by (simp only [bld, placesOf, splice, Value.cells, List.take_succ_cons, List.take_zero, List.drop_succ_cons, List.drop_zero, List.cons_append, List.nil_append, List.length_cons, List.length_nil, List.getElem?_cons_zero, List.getElem?_cons_succ, Option.map_some, List.append_nil, Nat.reduceAdd, Nat.reduceMul, Nat.zero_add, Nat.reduceLeDiff, and_self, if_true, List.toList_toArray, Nat.le_refl, Nat.zero_mul, Nat.one_mul]; first | done | rfl)) is_rfl)); first | (exact rfl; exact rfl) | exact rfl)
              | (apply J_seq)
              | (apply J_region)
              | (apply J_block)
              | (apply J_inBlock)
              | (apply aj_exit; refine J_exit rfl ?_)
              | (apply J_skip)
              | (apply al_none; (first | (refine JL_o (by apply as_box; exact OpR_box' hs rfl) rfl rfl ?_) | (refine JL_o (by apply as_alloc; exact OpR_alloc' hs) rfl rfl ?_)); rintro _ _ ⟨_, rfl, hb, hs, hE⟩)
              | (apply al_unit; refine JL_u (by apply as_store; exact OpR_store' hs rfl rfl rfl) rfl ?_; rintro _ _ ⟨hs, hF⟩)
              | (apply al_guard; first
    | (refine JL_no rfl (by first | assumption | rfl | exact decide_eq_true (by first | assumption | omega) | exact decide_eq_false (by first | assumption | omega)) rfl ?_)
    | (fail_if_success (apply JL_o_on rfl (by first | assumption | rfl | exact decide_eq_true (by first | assumption | omega) | exact decide_eq_false (by first | assumption | omega)))); first | (refine JL_split_dec rfl (fun _ => ?_) (fun _ => ?_)) | (refine JL_split rfl (fun _ => ?_) (fun _ => ?_)))
              | (apply aj_cond; first | refine J_dec_t rfl (by first | assumption | omega) ?_ | refine J_dec_f rfl (by first | assumption | omega) ?_ | refine J_cond_t rfl (by first | assumption | rfl | exact decide_eq_true (by first | assumption | omega) | exact decide_eq_false (by first | assumption | omega)) ?_ | refine J_cond_f rfl (by first | assumption | rfl | exact decide_eq_true (by first | assumption | omega) | exact decide_eq_false (by first | assumption | omega)) ?_ | (refine J_cond_dec rfl (fun _ => ?_) (fun _ => ?_)) | (refine J_cond rfl (fun _ => ?_) (fun _ => ?_)))
              | (apply aj_draw; first
    | (refine J_draw (id := 22) [0, 0, 3, 7, 0, 16, 0, 0, 192, 496, 1023, 2047, 4095] [(0, false), (1, false), (2, false), (3, false), (4, false), (5, false), (6, false), (7, false), (8, true), (9, true), (10, false)] [11, 12] mixed (by kernel_rfl) (by kernel_rfl) ?_; intro _ hE _; have hs := hs.ext hE)
    | (refine J_draw (id := 39) [0, 1, 0, 4, 0, 0, 60, 127, 255, 511] [(0, false), (1, false), (2, false), (4, false), (5, false), (3, true), (6, true), (7, true)] [8, 9] mixed (by kernel_rfl) (by kernel_rfl) ?_; intro _ hE _; have hs := hs.ext hE)
    | (refine J_draw (id := 44) [0, 0, 2, 7, 15] [(0, false), (1, false), (2, true), (3, true), (4, false)] [] mixed (by kernel_rfl) (by kernel_rfl) ?_; intro _ hE _; have hs := hs.ext hE))
              | (apply JD_done)
              | (apply JD_tail; case' hos => (simp only [List.map_cons, List.map_nil, List.getElem?_toArray, List.getElem?_cons_succ, List.getElem?_cons_zero]; repeat' (first | exact ms_nil | apply ms_cons)))
              | (refine JD_f_off rfl rfl (by first | assumption | rfl | exact decide_eq_true (by first | assumption | omega) | exact decide_eq_false (by first | assumption | omega)) rfl ?_)
              | (refine JD_c_off rfl rfl (by first | assumption | rfl | exact decide_eq_true (by first | assumption | omega) | exact decide_eq_false (by first | assumption | omega)) rfl ?_)
              | (refine JD_split_dec rfl rfl (fun _ => ?_) (fun _ => ?_))
              | (refine JD_split rfl rfl (fun _ => ?_) (fun _ => ?_)))
            have hs : St w NoF _ [_, _, _, _, _] := hs.sub (.cons _ (List.Sublist.refl _))
            refine J.to (ih (k + 1) _ ⟨hs, by omega⟩ (by omega)) ⟨rfl, rfl, rfl, rfl, rfl, rfl, rfl, trivial⟩
    · repeat' (first
        | (apply JL_nil)
        | ((first | (apply JL_pure) | (apply JL_pure_on; exact rfl; (first | assumption | exact rfl | exact decide_eq_true (by first | assumption | omega) | exact decide_eq_false (by first | assumption | omega))) | (apply JD_f; exact rfl; exact hs; intro W hE hs) | (apply JD_f_on; exact rfl; exact rfl; (first | assumption | exact rfl | exact decide_eq_true (by first | assumption | omega) | exact decide_eq_false (by first | assumption | omega)); exact hs; intro W hE hs)); (first
      | (apply as_move; first | exact OpR_move rfl is_rfl)
      | (apply as_assign; first | exact OpR_assign rfl is_rfl)
      | (apply as_fieldAddr; first | exact OpR_fieldAddr0 rfl rfl is_rfl | exact OpR_fieldAddr rfl rfl is_rfl)
      | (apply as_load; first | exact OpR_load' hs rfl rfl is_rfl | exact OpR_load_agg' hs rfl is_rfl)
      | (apply as_add; first | exact OpR_addn rfl rfl (by omega) (by first | (simp only [Int.reduceAdd]; exact rfl) | exact rfl) is_rfl | exact OpR_ibin rfl rfl rfl is_rfl)
      | (apply as_binOp; first | exact OpR_ibin rfl rfl rfl is_rfl | exact OpR_beq rfl rfl is_rfl | exact OpR_bne rfl rfl is_rfl | exact OpR_eqNil rfl rfl is_rfl | exact OpR_neNil rfl rfl is_rfl)
      | (apply as_unOp; first | exact OpR_not rfl is_rfl)
      | (apply as_pick; first | exact OpR_pick_t rfl (by first | assumption | rfl | exact decide_eq_true (by first | assumption | omega) | exact decide_eq_false (by first | assumption | omega)) rfl is_rfl | exact OpR_pick_f rfl (by first | assumption | rfl | exact decide_eq_true (by first | assumption | omega) | exact decide_eq_false (by first | assumption | omega)) rfl is_rfl)
      | (apply as_b_len; first | exact OpR_len rfl is_rfl | exact OpR_len_str rfl is_rfl | exact OpR_len_arr rfl is_rfl)
      | (apply as_extract; first | exact OpR_extract rfl rfl is_rfl)
      | (apply as_indexAddr; first | exact OpR_indexAddr rfl rfl (by omega) (by omega) is_rfl | exact OpR_indexAddr_arr' rfl rfl (by omega) (by omega) (by first | (simp only [Int.reduceToNat, Nat.reduceMul, Nat.reduceAdd]; exact rfl) | exact rfl) is_rfl)
      | (apply as_build; first | exact OpR_build rfl (by (simp only [bld, placesOf, splice, Value.cells, List.take_succ_cons, List.take_zero, List.drop_succ_cons, List.drop_zero, List.cons_append, List.nil_append, List.length_cons, List.length_nil, List.getElem?_cons_zero, List.getElem?_cons_succ, Option.map_some, List.append_nil, Nat.reduceAdd, Nat.reduceMul, Nat.zero_add, Nat.reduceLeDiff, and_self, if_true, List.toList_toArray, Nat.le_refl, Nat.zero_mul, Nat.one_mul]; first | done | rfl)) is_rfl | exact OpR_build_arr rfl (by (simp only [bld, placesOf, splice, Value.cells, List.take_succ_cons, List.take_zero, List.drop_succ_cons, List.drop_zero, List.cons_append, List.nil_append, List.length_cons, List.length_nil, List.getElem?_cons_zero, List.getElem?_cons_succ, Option.map_some, List.append_nil, Nat.reduceAdd, Nat.reduceMul, Nat.zero_add, Nat.reduceLeDiff, and_self, if_true, List.toList_toArray, Nat.le_refl, Nat.zero_mul, Nat.one_mul]; first | done | rfl)) is_rfl)); first | (exact rfl; exact rfl) | exact rfl)
        | (apply J_seq)
        | (apply J_region)
        | (apply J_block)
        | (apply J_inBlock)
        | (apply aj_exit; refine J_exit rfl ?_)
        | (apply J_skip)
        | (apply al_none; (first | (refine JL_o (by apply as_box; exact OpR_box' hs rfl) rfl rfl ?_) | (refine JL_o (by apply as_alloc; exact OpR_alloc' hs) rfl rfl ?_)); rintro _ _ ⟨_, rfl, hb, hs, hE⟩)
        | (apply al_unit; refine JL_u (by apply as_store; exact OpR_store' hs rfl rfl rfl) rfl ?_; rintro _ _ ⟨hs, hF⟩)
        | (apply al_guard; first
    | (refine JL_no rfl (by first | assumption | rfl | exact decide_eq_true (by first | assumption | omega) | exact decide_eq_false (by first | assumption | omega)) rfl ?_)
    | (fail_if_success (apply JL_o_on rfl (by first | assumption | rfl | exact decide_eq_true (by first | assumption | omega) | exact decide_eq_false (by first | assumption | omega)))); first | (refine JL_split_dec rfl (fun _ => ?_) (fun _ => ?_)) | (refine JL_split rfl (fun _ => ?_) (fun _ => ?_)))
        | (apply aj_cond; first | refine J_dec_t rfl (by first | assumption | omega) ?_ | refine J_dec_f rfl (by first | assumption | omega) ?_ | refine J_cond_t rfl (by first | assumption | rfl | exact decide_eq_true (by first | assumption | omega) | exact decide_eq_false (by first | assumption | omega)) ?_ | refine J_cond_f rfl (by first | assumption | rfl | exact decide_eq_true (by first | assumption | omega) | exact decide_eq_false (by first | assumption | omega)) ?_ | (refine J_cond_dec rfl (fun _ => ?_) (fun _ => ?_)) | (refine J_cond rfl (fun _ => ?_) (fun _ => ?_)))
        | (apply aj_draw; first
    | (refine J_draw (id := 22) [0, 0, 3, 7, 0, 16, 0, 0, 192, 496, 1023, 2047, 4095] [(0, false), (1, false), (2, false), (3, false), (4, false), (5, false), (6, false), (7, false), (8, true), (9, true), (10, false)] [11, 12] mixed (by kernel_rfl) (by kernel_rfl) ?_; intro _ hE _; have hs := hs.ext hE)
    | (refine J_draw (id := 39) [0, 1, 0, 4, 0, 0, 60, 127, 255, 511] [(0, false), (1, false), (2, false), (4, false), (5, false), (3, true), (6, true), (7, true)] [8, 9] mixed (by kernel_rfl) (by kernel_rfl) ?_; intro _ hE _; have hs := hs.ext hE)
    | (refine J_draw (id := 44) [0, 0, 2, 7, 15] [(0, false), (1, false), (2, true), (3, true), (4, false)] [] mixed (by kernel_rfl) (by kernel_rfl) ?_; intro _ hE _; have hs := hs.ext hE))
        | (apply JD_done)
        | (apply JD_tail; case' hos => (simp only [List.map_cons, List.map_nil, List.getElem?_toArray, List.getElem?_cons_succ, List.getElem?_cons_zero]; repeat' (first | exact ms_nil | apply ms_cons)))
        | (refine JD_f_off rfl rfl (by first | assumption | rfl | exact decide_eq_true (by first | assumption | omega) | exact decide_eq_false (by first | assumption | omega)) rfl ?_)
        | (refine JD_c_off rfl rfl (by first | assumption | rfl | exact decide_eq_true (by first | assumption | omega) | exact decide_eq_false (by first | assumption | omega)) rfl ?_)
        | (refine JD_split_dec rfl rfl (fun _ => ?_) (fun _ => ?_))
        | (refine JD_split rfl rfl (fun _ => ?_) (fun _ => ?_)))
      refine J_leave Try.func3 rfl (.tmp rfl .nil) ⟨rfl, hs.frm.ext⟩
end Go.Eng
