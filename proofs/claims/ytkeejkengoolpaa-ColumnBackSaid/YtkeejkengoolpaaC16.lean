/- Column: rows in order: the comparison of rows. -/
import Derived.Test.YtkeejkengoolpaaC15a
import Derived.Shelf.SlSortCmp.Insertion
namespace Go.Eng
open Go.Proofs
def cmpI (x y : Int) : Int := if x < y then -1 else if y < x then 1 else 0
theorem cmpI_lt {x y : Int} (h : x < y) : cmpI x y = -1 := by unfold cmpI; rw [if_pos h]
theorem cmpI_gt {x y : Int} (h : y < x) : cmpI x y = 1 := by unfold cmpI; rw [if_neg (by omega), if_pos h]
theorem cmpI_self (x : Int) : cmpI x x = 0 := by unfold cmpI; rw [if_neg (by omega), if_neg (by omega)]
/-- The order of rows, as Go's slices.Compare gives it. -/
def cmpL : List Int → List Int → Int
  | [], [] => 0
  | [], _ :: _ => -1
  | _ :: _, [] => 1
  | x :: xs, y :: ys => if x < y then -1 else if y < x then 1 else cmpL xs ys
theorem cmpL_range : ∀ xs ys, cmpL xs ys = -1 ∨ cmpL xs ys = 0 ∨ cmpL xs ys = 1
  | [], [] => by simp [cmpL]
  | [], _ :: _ => by simp [cmpL]
  | _ :: _, [] => by simp [cmpL]
  | x :: xs, y :: ys => by
    unfold cmpL
    have := cmpL_range xs ys
    split; · simp
    split; · simp
    exact this
theorem cmpL_swap : ∀ xs ys, cmpL ys xs = - cmpL xs ys
  | [], [] => by simp [cmpL]
  | [], _ :: _ => by simp [cmpL]
  | _ :: _, [] => by simp [cmpL]
  | x :: xs, y :: ys => by
    have := cmpL_swap xs ys
    rw [cmpL, cmpL]
    split
    · rw [if_neg (by omega)]
    · split
      · rfl
      · exact this
theorem cmpL_eq : ∀ {xs ys}, cmpL xs ys = 0 → xs = ys
  | [], [], _ => rfl
  | [], _ :: _, h => by simp [cmpL] at h
  | _ :: _, [], h => by simp [cmpL] at h
  | x :: xs, y :: ys, h => by
    rw [cmpL] at h
    split at h; · omega
    split at h; · omega
    rw [cmpL_eq h, show x = y by omega]
theorem cmpL_self : ∀ xs, cmpL xs xs = 0
  | [] => rfl
  | x :: xs => by rw [cmpL, if_neg (by omega), if_neg (by omega)]; exact cmpL_self xs
theorem cmpL_trans : ∀ {xs ys zs}, cmpL xs ys < 0 → cmpL ys zs < 0 → cmpL xs zs < 0
  | [], [], zs, h, _ => by simp [cmpL] at h
  | [], _ :: _, [], _, h => by simp [cmpL] at h
  | [], _ :: _, _ :: _, _, _ => by simp [cmpL]
  | _ :: _, [], _, h, _ => by simp [cmpL] at h
  | _ :: _, _ :: _, [], _, h => by simp [cmpL] at h
  | x :: xs, y :: ys, z :: zs, h, h2 => by
    have ih := @cmpL_trans xs ys zs
    rw [cmpL] at h h2 ⊢
    split
    · omega
    · split
      · split at h
        · split at h2; · omega
          split at h2; · omega
          omega
        · split at h; · omega
          split at h2; · omega
          split at h2; · omega
          omega
      · split at h
        · split at h2; · omega
          split at h2; · omega
          omega
        · split at h; · omega
          split at h2; · omega
          split at h2; · omega
          exact ih h h2
theorem cmpL_swo {α : Type} (f : α → List Int) : Go.Sort.SWO (Go.Proofs.ltOf fun x y => cmpL (f x) (f y)) where
  irrefl x := by simp [Go.Proofs.ltOf, cmpL_self]
  trans x y z h1 h2 := by
    simp only [Go.Proofs.ltOf, decide_eq_true_eq] at *
    exact cmpL_trans h1 h2
  ntrans x y z h1 h2 := by
    simp only [Go.Proofs.ltOf, decide_eq_false_iff_not, Int.not_lt] at *
    have e1 := cmpL_swap (f x) (f y)
    have e2 := cmpL_swap (f y) (f z)
    have e3 := cmpL_swap (f x) (f z)
    rcases cmpL_range (f x) (f y) with h | h | h
    · omega
    · rw [cmpL_eq h]; exact h2
    · rcases cmpL_range (f y) (f z) with h' | h' | h'
      · omega
      · rw [← cmpL_eq h']; exact h1
      · have := @cmpL_trans (f z) (f y) (f x) (by omega) (by omega)
        omega
/-- What is sorted, and of the same rows, is the same. -/
theorem sorted_uniq {l1 l2 : List (List Int)} (hp : l1.Perm l2) (h1 : l1.Pairwise fun x y => 0 ≤ cmpL y x) (h2 : l2.Pairwise fun x y => 0 ≤ cmpL y x) : l1 = l2 :=
  hp.eq_of_pairwise (fun a b _ _ hab hba => by
    have := cmpL_swap a b
    exact cmpL_eq (by omega)) h1 h2
theorem cmpL_drop {xs ys : List Int} {k : Nat} (hx : k < xs.length) (hy : k < ys.length) (h : xs[k] = ys[k]) : cmpL (xs.drop k) (ys.drop k) = cmpL (xs.drop (k + 1)) (ys.drop (k + 1)) := by
  rw [List.drop_eq_getElem_cons hx, List.drop_eq_getElem_cons hy, cmpL, if_neg (by omega), if_neg (by omega)]
theorem cmpL_drop_ne {xs ys : List Int} {k : Nat} (hx : k < xs.length) (hy : k < ys.length) (h : cmpI xs[k] ys[k] ≠ 0) : cmpL (xs.drop k) (ys.drop k) = cmpI xs[k] ys[k] := by
  rw [List.drop_eq_getElem_cons hx, List.drop_eq_getElem_cons hy, cmpL]
  unfold cmpI at h ⊢
  split
  · rfl
  · split
    · rfl
    · rename_i h1 h2; rw [if_neg h1, if_neg h2] at h; exact (h rfl).elim
theorem cmpI_zero {x y : Int} (h : cmpI x y = 0) : x = y := by
  unfold cmpI at h; split at h; · omega
  split at h <;> omega
theorem cmpL_nilR {xs : List Int} {k : Nat} (hx : k < xs.length) {ys : List Int} (hy : ys.length ≤ k) : cmpL (xs.drop k) (ys.drop k) = 1 := by
  rw [List.drop_eq_getElem_cons hx, List.drop_eq_nil_of_le hy, cmpL]
theorem cmpL_nilL {xs : List Int} {k : Nat} (hx : xs.length ≤ k) {ys : List Int} (hy : k < ys.length) : cmpL (xs.drop k) (ys.drop k) = -1 := by
  rw [List.drop_eq_getElem_cons hy, List.drop_eq_nil_of_le hx, cmpL]
attribute [local irreducible] J JL JD JX JXat OpR OpG Ret RetV Is Blk Row
set_option maxRecDepth 100000
set_option maxHeartbeats 1000000
set_option linter.unusedSimpArgs false
set_option linter.unusedVariables false
theorem isNaN_r (w : World) (x : Int) : Ret Try.prog 58 #[.int .u64 x] w fun v w' => v = .bool false ∧ Ext w w' := by
  refine Ret_of (l := [_]) Try.func58 rfl Try.ntmps58 (by simp) ?_
  have hs := St.init w
  repeat' (first
    | (apply JL_nil)
    | ((first | (apply JL_pure)); (first
      | (apply as_move; first | exact OpR_move rfl is_rfl)
      | (apply as_assign; first | exact OpR_assign rfl is_rfl)
      | (apply as_binOp; first | exact OpR_ibin rfl rfl rfl is_rfl | exact OpR_beq rfl rfl is_rfl | exact OpR_bne rfl rfl is_rfl | exact OpR_eqNil rfl rfl is_rfl | exact OpR_neNil rfl rfl is_rfl)); first | (exact rfl; exact rfl) | exact rfl)
    | (apply J_seq)
    | (apply J_region)
    | (apply aj_cond; first | refine J_dec_t rfl (by first | assumption | omega) ?_ | refine J_dec_f rfl (by first | assumption | omega) ?_ | refine J_cond_t rfl (by first | assumption | rfl | exact decide_eq_true (by first | assumption | omega) | exact decide_eq_false (by first | assumption | omega)) ?_ | refine J_cond_f rfl (by first | assumption | rfl | exact decide_eq_true (by first | assumption | omega) | exact decide_eq_false (by first | assumption | omega)) ?_ | (refine J_cond_dec rfl (fun _ => ?_) (fun _ => ?_)) | (refine J_cond rfl (fun _ => ?_) (fun _ => ?_))))
  refine J_leave Try.func58 rfl (.tmp rfl .nil) ⟨by simp [mkRes], hs.frm.ext⟩
theorem compare_r (w : World) (x y : Int) (hx : inK .u64 x) (hy : inK .u64 y) : Ret Try.prog 54 #[.int .u64 x, .int .u64 y] w fun v w' => v = .int .i64 (cmpI x y) ∧ Ext w w' := by
  refine Ret_of (l := [_, _]) Try.func54 rfl Try.ntmps54 (by simp) ?_
  have hs := St.init w
  rcases Int.lt_trichotomy x y with h | h | h
  · rw [cmpI_lt h]
    repeat' (first
      | ((apply al_call 58; refine JL_o (by exact OpR_callF en58 rfl (isNaN_r _ _)) rfl rfl ?_; rintro _ _ ⟨rfl, hE⟩; have hs := hs.ext hE; (try simp only [List.cons_append, List.nil_append] at hs)))
      | ((apply al_callg 58; refine JL_o_on rfl (by first | assumption | rfl | exact decide_eq_true (by first | assumption | omega) | exact decide_eq_false (by first | assumption | omega)) (by exact OpR_callF en58 rfl (isNaN_r _ _)) rfl rfl ?_; rintro _ _ ⟨rfl, hE⟩; have hs := hs.ext hE; (try simp only [List.cons_append, List.nil_append] at hs)))
      | ((apply ax_c; apply JX_cF 58; exact rfl; (intro W X hN hs; exact OpR_callF en58 rfl (isNaN_r _ _)); (rintro _ _ _ _ ⟨rfl, hE⟩; first | exact hE | exact Fresh.ext hf); rintro W X _ _ hN hs ⟨rfl, hE⟩; have hs := hs.ext hE; (try simp only [List.cons_append, List.nil_append] at hs); refine JX.at hs ?_))
      | ((apply ax_c; apply JX_cFg 58; exact rfl; exact rfl; exact (by first | assumption | rfl | exact decide_eq_true (by first | assumption | omega) | exact decide_eq_false (by first | assumption | omega)); (intro W X hN hs; exact OpR_callF en58 rfl (isNaN_r _ _)); (rintro _ _ _ _ ⟨rfl, hE⟩; first | exact hE | exact Fresh.ext hf); rintro W X _ _ hN hs ⟨rfl, hE⟩; have hs := hs.ext hE; (try simp only [List.cons_append, List.nil_append] at hs); refine JX.at hs ?_))
      | (apply JL_nil)
      | ((first | (apply JL_pure)); (first
      | (apply as_move; first | exact OpR_move rfl is_rfl)
      | (apply as_assign; first | exact OpR_assign rfl is_rfl)
      | (apply as_binOp; first | exact OpR_ibin rfl rfl rfl is_rfl | exact OpR_beq rfl rfl is_rfl | exact OpR_bne rfl rfl is_rfl | exact OpR_eqNil rfl rfl is_rfl | exact OpR_neNil rfl rfl is_rfl)); first | (exact rfl; exact rfl) | exact rfl)
      | (apply J_seq)
      | (apply J_region)
      | (apply J_skip)
      | (apply aj_cond; first | refine J_dec_t rfl (by first | assumption | omega) ?_ | refine J_dec_f rfl (by first | assumption | omega) ?_ | refine J_cond_t rfl (by first | assumption | rfl | exact decide_eq_true (by first | assumption | omega) | exact decide_eq_false (by first | assumption | omega)) ?_ | refine J_cond_f rfl (by first | assumption | rfl | exact decide_eq_true (by first | assumption | omega) | exact decide_eq_false (by first | assumption | omega)) ?_ | (refine J_cond_dec rfl (fun _ => ?_) (fun _ => ?_)) | (refine J_cond rfl (fun _ => ?_) (fun _ => ?_))))
    refine J_leave Try.func54 rfl (.tmp rfl .nil) ⟨rfl, hs.frm.ext⟩
  · subst h
    rw [cmpI_self]
    repeat' (first
      | ((apply al_call 58; refine JL_o (by exact OpR_callF en58 rfl (isNaN_r _ _)) rfl rfl ?_; rintro _ _ ⟨rfl, hE⟩; have hs := hs.ext hE; (try simp only [List.cons_append, List.nil_append] at hs)))
      | ((apply al_callg 58; refine JL_o_on rfl (by first | assumption | rfl | exact decide_eq_true (by first | assumption | omega) | exact decide_eq_false (by first | assumption | omega)) (by exact OpR_callF en58 rfl (isNaN_r _ _)) rfl rfl ?_; rintro _ _ ⟨rfl, hE⟩; have hs := hs.ext hE; (try simp only [List.cons_append, List.nil_append] at hs)))
      | ((apply ax_c; apply JX_cF 58; exact rfl; (intro W X hN hs; exact OpR_callF en58 rfl (isNaN_r _ _)); (rintro _ _ _ _ ⟨rfl, hE⟩; first | exact hE | exact Fresh.ext hf); rintro W X _ _ hN hs ⟨rfl, hE⟩; have hs := hs.ext hE; (try simp only [List.cons_append, List.nil_append] at hs); refine JX.at hs ?_))
      | ((apply ax_c; apply JX_cFg 58; exact rfl; exact rfl; exact (by first | assumption | rfl | exact decide_eq_true (by first | assumption | omega) | exact decide_eq_false (by first | assumption | omega)); (intro W X hN hs; exact OpR_callF en58 rfl (isNaN_r _ _)); (rintro _ _ _ _ ⟨rfl, hE⟩; first | exact hE | exact Fresh.ext hf); rintro W X _ _ hN hs ⟨rfl, hE⟩; have hs := hs.ext hE; (try simp only [List.cons_append, List.nil_append] at hs); refine JX.at hs ?_))
      | (apply JL_nil)
      | ((first | (apply JL_pure)); (first
      | (apply as_move; first | exact OpR_move rfl is_rfl)
      | (apply as_assign; first | exact OpR_assign rfl is_rfl)
      | (apply as_binOp; first | exact OpR_ibin rfl rfl rfl is_rfl | exact OpR_beq rfl rfl is_rfl | exact OpR_bne rfl rfl is_rfl | exact OpR_eqNil rfl rfl is_rfl | exact OpR_neNil rfl rfl is_rfl)); first | (exact rfl; exact rfl) | exact rfl)
      | (apply J_seq)
      | (apply J_region)
      | (apply J_skip)
      | (apply aj_cond; first | refine J_dec_t rfl (by first | assumption | omega) ?_ | refine J_dec_f rfl (by first | assumption | omega) ?_ | refine J_cond_t rfl (by first | assumption | rfl | exact decide_eq_true (by first | assumption | omega) | exact decide_eq_false (by first | assumption | omega)) ?_ | refine J_cond_f rfl (by first | assumption | rfl | exact decide_eq_true (by first | assumption | omega) | exact decide_eq_false (by first | assumption | omega)) ?_ | (refine J_cond_dec rfl (fun _ => ?_) (fun _ => ?_)) | (refine J_cond rfl (fun _ => ?_) (fun _ => ?_))))
    refine J_leave Try.func54 rfl (.tmp rfl .nil) ⟨rfl, hs.frm.ext⟩
  · rw [cmpI_gt h]
    repeat' (first
      | ((apply al_call 58; refine JL_o (by exact OpR_callF en58 rfl (isNaN_r _ _)) rfl rfl ?_; rintro _ _ ⟨rfl, hE⟩; have hs := hs.ext hE; (try simp only [List.cons_append, List.nil_append] at hs)))
      | ((apply al_callg 58; refine JL_o_on rfl (by first | assumption | rfl | exact decide_eq_true (by first | assumption | omega) | exact decide_eq_false (by first | assumption | omega)) (by exact OpR_callF en58 rfl (isNaN_r _ _)) rfl rfl ?_; rintro _ _ ⟨rfl, hE⟩; have hs := hs.ext hE; (try simp only [List.cons_append, List.nil_append] at hs)))
      | ((apply ax_c; apply JX_cF 58; exact rfl; (intro W X hN hs; exact OpR_callF en58 rfl (isNaN_r _ _)); (rintro _ _ _ _ ⟨rfl, hE⟩; first | exact hE | exact Fresh.ext hf); rintro W X _ _ hN hs ⟨rfl, hE⟩; have hs := hs.ext hE; (try simp only [List.cons_append, List.nil_append] at hs); refine JX.at hs ?_))
      | ((apply ax_c; apply JX_cFg 58; exact rfl; exact rfl; exact (by first | assumption | rfl | exact decide_eq_true (by first | assumption | omega) | exact decide_eq_false (by first | assumption | omega)); (intro W X hN hs; exact OpR_callF en58 rfl (isNaN_r _ _)); (rintro _ _ _ _ ⟨rfl, hE⟩; first | exact hE | exact Fresh.ext hf); rintro W X _ _ hN hs ⟨rfl, hE⟩; have hs := hs.ext hE; (try simp only [List.cons_append, List.nil_append] at hs); refine JX.at hs ?_))
      | (apply JL_nil)
      | ((first | (apply JL_pure)); (first
      | (apply as_move; first | exact OpR_move rfl is_rfl)
      | (apply as_assign; first | exact OpR_assign rfl is_rfl)
      | (apply as_binOp; first | exact OpR_ibin rfl rfl rfl is_rfl | exact OpR_beq rfl rfl is_rfl | exact OpR_bne rfl rfl is_rfl | exact OpR_eqNil rfl rfl is_rfl | exact OpR_neNil rfl rfl is_rfl)); first | (exact rfl; exact rfl) | exact rfl)
      | (apply J_seq)
      | (apply J_region)
      | (apply J_skip)
      | (apply aj_cond; first | refine J_dec_t rfl (by first | assumption | omega) ?_ | refine J_dec_f rfl (by first | assumption | omega) ?_ | refine J_cond_t rfl (by first | assumption | rfl | exact decide_eq_true (by first | assumption | omega) | exact decide_eq_false (by first | assumption | omega)) ?_ | refine J_cond_f rfl (by first | assumption | rfl | exact decide_eq_true (by first | assumption | omega) | exact decide_eq_false (by first | assumption | omega)) ?_ | (refine J_cond_dec rfl (fun _ => ?_) (fun _ => ?_)) | (refine J_cond rfl (fun _ => ?_) (fun _ => ?_))))
    refine J_leave Try.func54 rfl (.tmp rfl .nil) ⟨rfl, hs.frm.ext⟩
theorem compareL_r (w : World) (a1 a2 : Option Addr) (n1 c1 n2 c2 : Nat) (xs ys : List Int) (h1 : WR w a1 n1 c1 xs) (h2 : WR w a2 n2 c2 ys) :
    Ret Try.prog 47 #[.slice a1 n1 c1, .slice a2 n2 c2] w fun v w' => v = .int .i64 (cmpL xs ys) ∧ Ext w w' := by
  refine Ret_of (l := [_, _]) Try.func47 rfl Try.ntmps47 (by simp) ?_
  have hs := St.init w
  have hl1 := h1.len
  have hl2 := h2.len
  have hc1 := h1.1
  have hm1 := h1.2.1
  have hc2 := h2.1
  have hm2 := h2.2.1
  unfold maxLen at hm1 hm2
  repeat' (first
    | (apply JL_nil)
    | ((first | (apply JL_pure)); (first
      | (apply as_move; first | exact OpR_move rfl is_rfl)
      | (apply as_assign; first | exact OpR_assign rfl is_rfl)
      | (apply as_load; first | exact OpR_load' hs rfl rfl is_rfl | exact OpR_load_agg' hs rfl is_rfl)
      | (apply as_add; first | exact OpR_addn rfl rfl (by omega) (by first | (simp only [Int.reduceAdd]; exact rfl) | exact rfl) is_rfl | exact OpR_ibin rfl rfl rfl is_rfl)
      | (apply as_binOp; first | exact OpR_ibin rfl rfl rfl is_rfl | exact OpR_beq rfl rfl is_rfl | exact OpR_bne rfl rfl is_rfl | exact OpR_eqNil rfl rfl is_rfl | exact OpR_neNil rfl rfl is_rfl)
      | (apply as_b_len; first | exact OpR_len rfl is_rfl | exact OpR_len_str rfl is_rfl | exact OpR_len_arr rfl is_rfl)
      | (apply as_indexAddr; first | exact OpR_indexAddr rfl rfl (by omega) (by omega) is_rfl | exact OpR_indexAddr_arr' rfl rfl (by omega) (by omega) (by first | (simp only [Int.reduceToNat, Nat.reduceMul, Nat.reduceAdd]; exact rfl) | exact rfl) is_rfl)); first | (exact rfl; exact rfl) | exact rfl)
    | (apply J_seq)
    | (apply J_region)
    | (apply J_block)
    | (apply J_inBlock)
    | (apply aj_exit; refine J_exit rfl ?_)
    | (apply J_skip)
    | (apply aj_cond; first | refine J_dec_t rfl (by first | assumption | omega) ?_ | refine J_dec_f rfl (by first | assumption | omega) ?_ | refine J_cond_t rfl (by first | assumption | rfl | exact decide_eq_true (by first | assumption | omega) | exact decide_eq_false (by first | assumption | omega)) ?_ | refine J_cond_f rfl (by first | assumption | rfl | exact decide_eq_true (by first | assumption | omega) | exact decide_eq_false (by first | assumption | omega)) ?_ | (refine J_cond_dec rfl (fun _ => ?_) (fun _ => ?_)) | (refine J_cond rfl (fun _ => ?_) (fun _ => ?_))))
  refine J_loopK (α := Nat) [(0, _), (1, _), (9, _), (10, _)] (fun k => [(11, .int .i64 k)]) (fun k w' => St w NoF w' [] ∧ k ≤ n1 ∧ k ≤ n2 ∧ cmpL (xs.drop k) (ys.drop k) = cmpL xs ys) (fun k => n1 - k) 0 ⟨hs, by omega, by omega, by simp⟩ (by repeat' (first | exact trivial | exact rfl | apply And.intro)) ?_
  rintro k w' ⟨hs, hk, hk2, hj⟩ ih
  by_cases hlt : k < n1
  · obtain ⟨p1, o1, rfl⟩ := h1.2.2.2.addr (by omega)
    have hx : xs[k]? = some xs[k] := List.getElem?_eq_getElem (by omega)
    by_cases hlt2 : k < n2
    · obtain ⟨p2, o2, rfl⟩ := h2.2.2.2.addr (by omega)
      have hy : ys[k]? = some ys[k] := List.getElem?_eq_getElem (by omega)
      have hxk := (h1.2.2.2.int hx rfl).2
      have hyk := (h2.2.2.2.int hy rfl).2
      by_cases he : cmpI xs[k] ys[k] = 0
      · repeat' (first
          | ((apply al_call 54; refine JL_o (by exact OpR_callF en54 rfl (compare_r _ xs[k] ys[k] hxk hyk)) rfl rfl ?_; rintro _ _ ⟨rfl, hE⟩; have hs := hs.ext hE; (try simp only [List.cons_append, List.nil_append] at hs)))
          | ((apply al_callg 54; refine JL_o_on rfl (by first | assumption | rfl | exact decide_eq_true (by first | assumption | omega) | exact decide_eq_false (by first | assumption | omega)) (by exact OpR_callF en54 rfl (compare_r _ xs[k] ys[k] hxk hyk)) rfl rfl ?_; rintro _ _ ⟨rfl, hE⟩; have hs := hs.ext hE; (try simp only [List.cons_append, List.nil_append] at hs)))
          | ((apply ax_c; apply JX_cF 54; exact rfl; (intro W X hN hs; exact OpR_callF en54 rfl (compare_r _ xs[k] ys[k] hxk hyk)); (rintro _ _ _ _ ⟨rfl, hE⟩; first | exact hE | exact Fresh.ext hf); rintro W X _ _ hN hs ⟨rfl, hE⟩; have hs := hs.ext hE; (try simp only [List.cons_append, List.nil_append] at hs); refine JX.at hs ?_))
          | ((apply ax_c; apply JX_cFg 54; exact rfl; exact rfl; exact (by first | assumption | rfl | exact decide_eq_true (by first | assumption | omega) | exact decide_eq_false (by first | assumption | omega)); (intro W X hN hs; exact OpR_callF en54 rfl (compare_r _ xs[k] ys[k] hxk hyk)); (rintro _ _ _ _ ⟨rfl, hE⟩; first | exact hE | exact Fresh.ext hf); rintro W X _ _ hN hs ⟨rfl, hE⟩; have hs := hs.ext hE; (try simp only [List.cons_append, List.nil_append] at hs); refine JX.at hs ?_))
          | (apply JL_nil)
          | ((first | (apply JL_pure)); (first
      | (apply as_load; first | exact OpR_load_int (h1.2.2.2.st hs) rfl hx is_rfl | exact OpR_load_int (h2.2.2.2.st hs) rfl hy is_rfl)
      | (apply as_move; first | exact OpR_move rfl is_rfl)
      | (apply as_assign; first | exact OpR_assign rfl is_rfl)
      | (apply as_load; first | exact OpR_load' hs rfl rfl is_rfl | exact OpR_load_agg' hs rfl is_rfl)
      | (apply as_add; first | exact OpR_addn rfl rfl (by omega) (by first | (simp only [Int.reduceAdd]; exact rfl) | exact rfl) is_rfl | exact OpR_ibin rfl rfl rfl is_rfl)
      | (apply as_binOp; first | exact OpR_ibin rfl rfl rfl is_rfl | exact OpR_beq rfl rfl is_rfl | exact OpR_bne rfl rfl is_rfl | exact OpR_eqNil rfl rfl is_rfl | exact OpR_neNil rfl rfl is_rfl)
      | (apply as_b_len; first | exact OpR_len rfl is_rfl | exact OpR_len_str rfl is_rfl | exact OpR_len_arr rfl is_rfl)
      | (apply as_indexAddr; first | exact OpR_indexAddr rfl rfl (by omega) (by omega) is_rfl | exact OpR_indexAddr_arr' rfl rfl (by omega) (by omega) (by first | (simp only [Int.reduceToNat, Nat.reduceMul, Nat.reduceAdd]; exact rfl) | exact rfl) is_rfl)); first | (exact rfl; exact rfl) | exact rfl)
          | (apply J_seq)
          | (apply J_region)
          | (apply J_block)
          | (apply J_inBlock)
          | (apply aj_exit; refine J_exit rfl ?_)
          | (apply J_skip)
          | (apply aj_cond; first | refine J_dec_t rfl (by first | assumption | omega) ?_ | refine J_dec_f rfl (by first | assumption | omega) ?_ | refine J_cond_t rfl (by first | assumption | rfl | exact decide_eq_true (by first | assumption | omega) | exact decide_eq_false (by first | assumption | omega)) ?_ | refine J_cond_f rfl (by first | assumption | rfl | exact decide_eq_true (by first | assumption | omega) | exact decide_eq_false (by first | assumption | omega)) ?_ | (refine J_cond_dec rfl (fun _ => ?_) (fun _ => ?_)) | (refine J_cond rfl (fun _ => ?_) (fun _ => ?_))))
        refine ih (k + 1) _ _ ⟨hs, by omega, by omega, ?_⟩ (by omega) (by repeat' (first | exact trivial | exact rfl | apply And.intro))
        rw [← hj, cmpL_drop (by omega) (by omega) (cmpI_zero he)]
      · repeat' (first
          | ((apply al_call 54; refine JL_o (by exact OpR_callF en54 rfl (compare_r _ xs[k] ys[k] hxk hyk)) rfl rfl ?_; rintro _ _ ⟨rfl, hE⟩; have hs := hs.ext hE; (try simp only [List.cons_append, List.nil_append] at hs)))
          | ((apply al_callg 54; refine JL_o_on rfl (by first | assumption | rfl | exact decide_eq_true (by first | assumption | omega) | exact decide_eq_false (by first | assumption | omega)) (by exact OpR_callF en54 rfl (compare_r _ xs[k] ys[k] hxk hyk)) rfl rfl ?_; rintro _ _ ⟨rfl, hE⟩; have hs := hs.ext hE; (try simp only [List.cons_append, List.nil_append] at hs)))
          | ((apply ax_c; apply JX_cF 54; exact rfl; (intro W X hN hs; exact OpR_callF en54 rfl (compare_r _ xs[k] ys[k] hxk hyk)); (rintro _ _ _ _ ⟨rfl, hE⟩; first | exact hE | exact Fresh.ext hf); rintro W X _ _ hN hs ⟨rfl, hE⟩; have hs := hs.ext hE; (try simp only [List.cons_append, List.nil_append] at hs); refine JX.at hs ?_))
          | ((apply ax_c; apply JX_cFg 54; exact rfl; exact rfl; exact (by first | assumption | rfl | exact decide_eq_true (by first | assumption | omega) | exact decide_eq_false (by first | assumption | omega)); (intro W X hN hs; exact OpR_callF en54 rfl (compare_r _ xs[k] ys[k] hxk hyk)); (rintro _ _ _ _ ⟨rfl, hE⟩; first | exact hE | exact Fresh.ext hf); rintro W X _ _ hN hs ⟨rfl, hE⟩; have hs := hs.ext hE; (try simp only [List.cons_append, List.nil_append] at hs); refine JX.at hs ?_))
          | (apply JL_nil)
          | ((first | (apply JL_pure)); (first
      | (apply as_load; first | exact OpR_load_int (h1.2.2.2.st hs) rfl hx is_rfl | exact OpR_load_int (h2.2.2.2.st hs) rfl hy is_rfl)
      | (apply as_move; first | exact OpR_move rfl is_rfl)
      | (apply as_assign; first | exact OpR_assign rfl is_rfl)
      | (apply as_load; first | exact OpR_load' hs rfl rfl is_rfl | exact OpR_load_agg' hs rfl is_rfl)
      | (apply as_add; first | exact OpR_addn rfl rfl (by omega) (by first | (simp only [Int.reduceAdd]; exact rfl) | exact rfl) is_rfl | exact OpR_ibin rfl rfl rfl is_rfl)
      | (apply as_binOp; first | exact OpR_ibin rfl rfl rfl is_rfl | exact OpR_beq rfl rfl is_rfl | exact OpR_bne rfl rfl is_rfl | exact OpR_eqNil rfl rfl is_rfl | exact OpR_neNil rfl rfl is_rfl)
      | (apply as_b_len; first | exact OpR_len rfl is_rfl | exact OpR_len_str rfl is_rfl | exact OpR_len_arr rfl is_rfl)
      | (apply as_indexAddr; first | exact OpR_indexAddr rfl rfl (by omega) (by omega) is_rfl | exact OpR_indexAddr_arr' rfl rfl (by omega) (by omega) (by first | (simp only [Int.reduceToNat, Nat.reduceMul, Nat.reduceAdd]; exact rfl) | exact rfl) is_rfl)); first | (exact rfl; exact rfl) | exact rfl)
          | (apply J_seq)
          | (apply J_region)
          | (apply J_block)
          | (apply J_inBlock)
          | (apply aj_exit; refine J_exit rfl ?_)
          | (apply J_skip)
          | (apply aj_cond; first | refine J_dec_t rfl (by first | assumption | omega) ?_ | refine J_dec_f rfl (by first | assumption | omega) ?_ | refine J_cond_t rfl (by first | assumption | rfl | exact decide_eq_true (by first | assumption | omega) | exact decide_eq_false (by first | assumption | omega)) ?_ | refine J_cond_f rfl (by first | assumption | rfl | exact decide_eq_true (by first | assumption | omega) | exact decide_eq_false (by first | assumption | omega)) ?_ | (refine J_cond_dec rfl (fun _ => ?_) (fun _ => ?_)) | (refine J_cond rfl (fun _ => ?_) (fun _ => ?_))))
        refine J_leave Try.func47 rfl (.tmp rfl .nil) ⟨?_, hs.frm.ext⟩
        rw [← hj, cmpL_drop_ne (by omega) (by omega) he]; rfl
    · repeat' (first
        | (apply JL_nil)
        | ((first | (apply JL_pure)); (first
      | (apply as_load; first | exact OpR_load_int (h1.2.2.2.st hs) rfl hx is_rfl)
      | (apply as_move; first | exact OpR_move rfl is_rfl)
      | (apply as_assign; first | exact OpR_assign rfl is_rfl)
      | (apply as_load; first | exact OpR_load' hs rfl rfl is_rfl | exact OpR_load_agg' hs rfl is_rfl)
      | (apply as_add; first | exact OpR_addn rfl rfl (by omega) (by first | (simp only [Int.reduceAdd]; exact rfl) | exact rfl) is_rfl | exact OpR_ibin rfl rfl rfl is_rfl)
      | (apply as_binOp; first | exact OpR_ibin rfl rfl rfl is_rfl | exact OpR_beq rfl rfl is_rfl | exact OpR_bne rfl rfl is_rfl | exact OpR_eqNil rfl rfl is_rfl | exact OpR_neNil rfl rfl is_rfl)
      | (apply as_b_len; first | exact OpR_len rfl is_rfl | exact OpR_len_str rfl is_rfl | exact OpR_len_arr rfl is_rfl)
      | (apply as_indexAddr; first | exact OpR_indexAddr rfl rfl (by omega) (by omega) is_rfl | exact OpR_indexAddr_arr' rfl rfl (by omega) (by omega) (by first | (simp only [Int.reduceToNat, Nat.reduceMul, Nat.reduceAdd]; exact rfl) | exact rfl) is_rfl)); first | (exact rfl; exact rfl) | exact rfl)
        | (apply J_seq)
        | (apply J_region)
        | (apply J_block)
        | (apply J_inBlock)
        | (apply aj_exit; refine J_exit rfl ?_)
        | (apply J_skip)
        | (apply aj_cond; first | refine J_dec_t rfl (by first | assumption | omega) ?_ | refine J_dec_f rfl (by first | assumption | omega) ?_ | refine J_cond_t rfl (by first | assumption | rfl | exact decide_eq_true (by first | assumption | omega) | exact decide_eq_false (by first | assumption | omega)) ?_ | refine J_cond_f rfl (by first | assumption | rfl | exact decide_eq_true (by first | assumption | omega) | exact decide_eq_false (by first | assumption | omega)) ?_ | (refine J_cond_dec rfl (fun _ => ?_) (fun _ => ?_)) | (refine J_cond rfl (fun _ => ?_) (fun _ => ?_))))
      refine J_leave Try.func47 rfl (.tmp rfl .nil) ⟨?_, hs.frm.ext⟩
      rw [← hj, cmpL_nilR (by omega) (by omega)]; rfl
  · by_cases hlt2 : n1 < n2
    · repeat' (first
        | (apply JL_nil)
        | ((first | (apply JL_pure)); (first
      | (apply as_move; first | exact OpR_move rfl is_rfl)
      | (apply as_assign; first | exact OpR_assign rfl is_rfl)
      | (apply as_load; first | exact OpR_load' hs rfl rfl is_rfl | exact OpR_load_agg' hs rfl is_rfl)
      | (apply as_add; first | exact OpR_addn rfl rfl (by omega) (by first | (simp only [Int.reduceAdd]; exact rfl) | exact rfl) is_rfl | exact OpR_ibin rfl rfl rfl is_rfl)
      | (apply as_binOp; first | exact OpR_ibin rfl rfl rfl is_rfl | exact OpR_beq rfl rfl is_rfl | exact OpR_bne rfl rfl is_rfl | exact OpR_eqNil rfl rfl is_rfl | exact OpR_neNil rfl rfl is_rfl)
      | (apply as_b_len; first | exact OpR_len rfl is_rfl | exact OpR_len_str rfl is_rfl | exact OpR_len_arr rfl is_rfl)
      | (apply as_indexAddr; first | exact OpR_indexAddr rfl rfl (by omega) (by omega) is_rfl | exact OpR_indexAddr_arr' rfl rfl (by omega) (by omega) (by first | (simp only [Int.reduceToNat, Nat.reduceMul, Nat.reduceAdd]; exact rfl) | exact rfl) is_rfl)); first | (exact rfl; exact rfl) | exact rfl)
        | (apply J_seq)
        | (apply J_region)
        | (apply J_block)
        | (apply J_inBlock)
        | (apply aj_exit; refine J_exit rfl ?_)
        | (apply J_skip)
        | (apply aj_cond; first | refine J_dec_t rfl (by first | assumption | omega) ?_ | refine J_dec_f rfl (by first | assumption | omega) ?_ | refine J_cond_t rfl (by first | assumption | rfl | exact decide_eq_true (by first | assumption | omega) | exact decide_eq_false (by first | assumption | omega)) ?_ | refine J_cond_f rfl (by first | assumption | rfl | exact decide_eq_true (by first | assumption | omega) | exact decide_eq_false (by first | assumption | omega)) ?_ | (refine J_cond_dec rfl (fun _ => ?_) (fun _ => ?_)) | (refine J_cond rfl (fun _ => ?_) (fun _ => ?_))))
      refine J_leave Try.func47 rfl (.tmp rfl .nil) ⟨?_, hs.frm.ext⟩
      rw [← hj, cmpL_nilL (by omega) (by omega)]; rfl
    · repeat' (first
        | (apply JL_nil)
        | ((first | (apply JL_pure)); (first
      | (apply as_move; first | exact OpR_move rfl is_rfl)
      | (apply as_assign; first | exact OpR_assign rfl is_rfl)
      | (apply as_load; first | exact OpR_load' hs rfl rfl is_rfl | exact OpR_load_agg' hs rfl is_rfl)
      | (apply as_add; first | exact OpR_addn rfl rfl (by omega) (by first | (simp only [Int.reduceAdd]; exact rfl) | exact rfl) is_rfl | exact OpR_ibin rfl rfl rfl is_rfl)
      | (apply as_binOp; first | exact OpR_ibin rfl rfl rfl is_rfl | exact OpR_beq rfl rfl is_rfl | exact OpR_bne rfl rfl is_rfl | exact OpR_eqNil rfl rfl is_rfl | exact OpR_neNil rfl rfl is_rfl)
      | (apply as_b_len; first | exact OpR_len rfl is_rfl | exact OpR_len_str rfl is_rfl | exact OpR_len_arr rfl is_rfl)
      | (apply as_indexAddr; first | exact OpR_indexAddr rfl rfl (by omega) (by omega) is_rfl | exact OpR_indexAddr_arr' rfl rfl (by omega) (by omega) (by first | (simp only [Int.reduceToNat, Nat.reduceMul, Nat.reduceAdd]; exact rfl) | exact rfl) is_rfl)); first | (exact rfl; exact rfl) | exact rfl)
        | (apply J_seq)
        | (apply J_region)
        | (apply J_block)
        | (apply J_inBlock)
        | (apply aj_exit; refine J_exit rfl ?_)
        | (apply J_skip)
        | (apply aj_cond; first | refine J_dec_t rfl (by first | assumption | omega) ?_ | refine J_dec_f rfl (by first | assumption | omega) ?_ | refine J_cond_t rfl (by first | assumption | rfl | exact decide_eq_true (by first | assumption | omega) | exact decide_eq_false (by first | assumption | omega)) ?_ | refine J_cond_f rfl (by first | assumption | rfl | exact decide_eq_true (by first | assumption | omega) | exact decide_eq_false (by first | assumption | omega)) ?_ | (refine J_cond_dec rfl (fun _ => ?_) (fun _ => ?_)) | (refine J_cond rfl (fun _ => ?_) (fun _ => ?_))))
      refine J_leave Try.func47 rfl (.tmp rfl .nil) ⟨?_, hs.frm.ext⟩
      rw [← hj, List.drop_eq_nil_of_le (by omega), List.drop_eq_nil_of_le (by omega)]; rfl
end Go.Eng
