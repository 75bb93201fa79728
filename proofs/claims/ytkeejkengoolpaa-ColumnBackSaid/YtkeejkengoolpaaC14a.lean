/- Column: lemmas for the law ColumnMay. -/
import Derived.Test.YtkeejkengoolpaaC13a
namespace Go.Eng
open Go.Proofs
theorem check_v (w : World) (W R : Int) (a : Option Addr) (n c : Nat) (b : Bool) (h : colB W R n = b) : Ret Try.prog 28 #[.agg #[.int .i64 W, .int .i64 R, .slice a n c]] w fun v w' => Ext w w' ∧ v = .int .i64 (if b then 0 else 180) := by
  have := check_r w W R a n c; rwa [h] at this
theorem right_v (w : World) (W R : Int) (a : Option Addr) (n c : Nat) (b : Bool) (h : colB W R n = b) : Ret Try.prog 13 #[.agg #[.int .i64 W, .int .i64 R, .slice a n c]] w fun v w' => Ext w w' ∧ v = .bool b := by
  have := right_r w W R a n c; rwa [h] at this
theorem same26_d (w : World) (W1 R1 W2 R2 : Int) (a1 a2 : Option Addr) (n1 c1 n2 c2 : Nat) (xs ys : List Int) (q : Bool) (hq : q = decide (W1 = W2 ∧ R1 = R2 ∧ xs = ys)) (h1 : WR w a1 n1 c1 xs) (h2 : WR w a2 n2 c2 ys) :
    Ret Try.prog 26 #[.agg #[.int .i64 W1, .int .i64 R1, .slice a1 n1 c1], .agg #[.int .i64 W2, .int .i64 R2, .slice a2 n2 c2]] w fun v w' => v = .bool q ∧ Ext w w' := hq ▸
  same_r w W1 R1 W2 R2 a1 a2 n1 c1 n2 c2 xs ys All All h1.2.2.2 h2.2.2.2 (by have := h1.1; have := h1.2.1; unfold maxLen at *; omega)
theorem rsame_d (w : World) (W1 R1 W2 R2 : Int) (a1 a2 : Option Addr) (n1 c1 n2 c2 : Nat) (xs ys : List Int) (q : Bool) (hq : q = decide (W1 = W2 ∧ R1 = R2 ∧ xs = ys)) (h1 : WR w a1 n1 c1 xs) (h2 : WR w a2 n2 c2 ys) :
    Ret Try.prog 20 #[.agg #[.int .i64 W1, .int .i64 R1, .slice a1 n1 c1], .agg #[.int .i64 W2, .int .i64 R2, .slice a2 n2 c2]] w fun v w' => v = .bool q ∧ Ext w w' := hq ▸
  rsame_r w W1 R1 W2 R2 a1 a2 n1 c1 n2 c2 xs ys h1.2.2.2 h2.2.2.2 (by have := h1.1; have := h1.2.1; unfold maxLen at *; omega)
theorem newT_r (w : World) (n : Int) (hn : 0 ≤ n ∧ n ≤ 4) : Ret Try.prog 29 #[.int .i64 n] w fun v w' => Ext w w' ∧ v = .tuple #[.agg #[.int .i64 n, .int .i64 0, .slice none 0 0], .int .i64 0] := by
  have := new_r w n (by omega); rwa [if_pos hn] at this
theorem newF_r (w : World) (n : Int) (hi : inK .i64 n) (hn : ¬ (0 ≤ n ∧ n ≤ 4)) : Ret Try.prog 29 #[.int .i64 n] w fun v w' => Ext w w' ∧ v = .tuple #[.agg #[.int .i64 0, .int .i64 0, .slice none 0 0], .int .i64 2] := by
  have := new_r w n hi; rwa [if_neg hn] at this
theorem equalFunc_t (w : World) (a1 a2 : Option Addr) (n1 c1 n2 c2 : Nat) (xs ys : List (List Int)) (h1 : Sl (tSl (tInt .u64)) All w a1 n1 c1 xs) (h2 : Sl (tSl (tInt .u64)) All w a2 n2 c2 ys) (e : xs = ys) :
    Ret Try.prog 30 #[.slice a1 n1 c1, .slice a2 n2 c2, .func (.func 19) #[] #[]] w fun v w' => v = .bool true ∧ Ext w w' := by
  have := equalFunc_r w a1 a2 n1 c1 n2 c2 xs ys h1 h2; rwa [decide_eq_true e] at this
theorem sl_nil {α : Type} (d : Ty α) (w : World) : Sl d All w none 0 0 ([] : List α) := ⟨Nat.le_refl _, by unfold maxLen; omega, fun _ => rfl, ⟨rfl, fun _ => rfl, fun h => by omega, fun _ _ h _ => by (cases h), fun i x hx => by simp at hx⟩⟩
theorem ofNil_r (w : World) (W : Int) : Ret Try.prog 17 #[.int .i64 W, .slice none 0 0] w fun v w' => ∃ a' c', v = .agg #[.int .i64 W, .int .i64 0, .slice a' 0 c'] ∧ Fresh w w' [Row a' 0 c' 41 1 (u64s [])] :=
  rof_r w W none 0 0 [] ⟨Nat.le_refl _, by unfold maxLen; omega, fun _ => rfl, ⟨rfl, fun _ => rfl, fun h => by omega, fun _ _ h _ => by (cases h), fun i x hx => by simp at hx⟩⟩ (by simp) (by omega)
attribute [local irreducible] J JL JD JX JXat OpR OpG Ret RetV Is Blk Row
set_option maxRecDepth 100000
set_option maxHeartbeats 2000000
set_option linter.unusedSimpArgs false
set_option linter.unusedVariables false
end Go.Eng
