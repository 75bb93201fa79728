/- Column: lemmas for the law ColumnThere. -/
import Derived.Test.YtkeejkengoolpaaC17
namespace Go.Eng
open Go.Proofs
theorem without_perm {l : List (List Int)} {i : Nat} {x : List Int} (h : l[i]? = some x) : (withoutM l i ++ [x]).Perm l := by
  obtain ⟨hi, hx⟩ := List.getElem?_eq_some_iff.1 h
  have hne : l ≠ [] := by intro e; subst e; simp at hi
  obtain ⟨f, y, rfl⟩ : ∃ f y, l = f ++ [y] := ⟨l.dropLast, l.getLast hne, (List.dropLast_concat_getLast hne).symm⟩
  have hl : (f ++ [y]).length - 1 = f.length := by simp
  have hg : (f ++ [y]).getD ((f ++ [y]).length - 1) [] = y := by rw [hl]; simp
  unfold withoutM
  rw [hg, hl]
  by_cases hif : i < f.length
  · rw [List.set_append_left _ _ hif, List.take_left' (by simp)]
    have hxf : f[i] = x := by rw [← hx]; exact (List.getElem_append_left hif).symm
    have e1 : f.set i y = f.take i ++ y :: f.drop (i + 1) := List.set_eq_take_append_cons_drop.trans (if_pos hif)
    have e2 : f = f.take i ++ x :: f.drop (i + 1) := by
      conv => lhs; rw [← List.take_append_drop i f, List.drop_eq_getElem_cons hif, hxf]
    have p1 : (f.take i ++ y :: f.drop (i + 1) ++ [x]).Perm (x :: y :: (f.take i ++ f.drop (i + 1))) :=
      List.perm_append_comm.trans (List.Perm.cons x List.perm_middle)
    have p2 : (f.take i ++ x :: f.drop (i + 1) ++ [y]).Perm (y :: x :: (f.take i ++ f.drop (i + 1))) :=
      List.perm_append_comm.trans (List.Perm.cons y List.perm_middle)
    rw [e1]
    conv => rhs; rw [e2]
    exact p1.trans ((List.Perm.swap y x _).trans p2.symm)
  · have hie : i = f.length := by simp at hi; omega
    subst hie
    have hxy : y = x := by simpa using hx
    subst hxy
    rw [List.set_append_right _ _ (Nat.le_refl _), List.take_left' rfl]
section
variable {W R r : Int} {ws : List Int}
theorem rows_moved (hB : colB W R ws.length = true) (hr : 0 ≤ r ∧ r < R) : rowsM W R (swapW W R r ws ++ rowOf W r ws) = withoutM (rowsM W R ws) r.toNat ++ [rowOf W r ws] := by
  have hw := colB_W hB
  have hlen := rowsM_len W R ws
  have e : swapW W R r ws ++ rowOf W r ws = (withoutM (rowsM W R ws) r.toNat ++ [rowOf W r ws]).flatten := by rw [List.flatten_append, without_flat hB hr]; simp
  rw [e]
  refine rowsM_of (by omega) (fun v hv => ?_) ?_
  · have hv2 := (without_perm (rowsM_get (W := W) (ws := ws) hr)).mem_iff.1 hv
    exact rowsM_W hB v hv2
  · rw [(without_perm (rowsM_get (W := W) (ws := ws) hr)).length_eq]; exact hlen
theorem rows_moved_perm (hB : colB W R ws.length = true) (hr : 0 ≤ r ∧ r < R) : (rowsM W R (swapW W R r ws ++ rowOf W r ws)).Perm (rowsM W R ws) := by
  rw [rows_moved hB hr]; exact without_perm (rowsM_get hr)
theorem swapW_len (hB : colB W R ws.length = true) (hr : 0 ≤ r ∧ r < R) : ((swapW W R r ws).length : Int) = (R - 1) * W := by
  have hbd := row_bd hB hr
  have hw := colB_W hB
  rw [swapW, List.length_take, spl_length (by simp; omega)]; omega
theorem rowOf_len (hB : colB W R ws.length = true) (hr : 0 ≤ r ∧ r < R) : ((rowOf W r ws).length : Int) = W := by
  have hbd := row_bd hB hr
  have hw := colB_W hB
  simp [rowOf]; omega
theorem colB_swap (hB : colB W R ws.length = true) (hr : 0 ≤ r ∧ r < R) : colB W (R - 1) (swapW W R r ws).length = true := by
  have hl := swapW_len hB hr
  have hw := colB_W hB
  rw [colB_iff]
  have := Int.mul_comm W (R - 1)
  omega
theorem colB_push {vs : List Int} (hB : colB W R ws.length = true) (hR : R ≤ 1000) (hv : (vs.length : Int) = W) : colB W (R + 1) (ws ++ vs).length = true := by
  have hw := colB_W hB
  rw [colB_iff, List.length_append]
  have : W * (R + 1) = W * R + W := by rw [Int.mul_add, Int.mul_one]
  omega
theorem rowOf_push {vs : List Int} (hB : colB W R ws.length = true) (hv : (vs.length : Int) = W) : rowOf W R (ws ++ vs) = vs := by
  have hw := colB_W hB
  have : W * R = R * W := Int.mul_comm _ _
  unfold rowOf
  rw [List.drop_left' (by omega), List.take_of_length_le (by omega)]
theorem swapW_push {vs : List Int} (hB : colB W R ws.length = true) : swapW W (R + 1) R (ws ++ vs) = ws := by
  have hw := colB_W hB
  have : W * R = R * W := Int.mul_comm _ _
  unfold swapW spl
  have e : (R * W).toNat = ws.length := by omega
  rw [show R + 1 - 1 = R by omega, e, List.take_left, List.append_assoc, List.take_left]
end
theorem move_v {w : World} {W1 R1 W2 R2 r : Int} {a1 a2 : Option Addr} {n1 c1 n2 c2 : Nat} {ws1 ws2 : List Int} {W3 R3 : Int} {ws3 : List Int} {W4 R4 : Int} {ws4 : List Int} {no : Int} (hm : moveM W1 R1 W2 R2 r ws1 ws2 = ((W3, R3, ws3), (W4, R4, ws4), no)) (h1 : WR w a1 n1 c1 ws1) (h2 : WR w a2 n2 c2 ws2) (hsm : colB W2 R2 n2 = true → R2 ≤ 1000) :
    Ret Try.prog 25 #[.agg #[.int .i64 W1, .int .i64 R1, .slice a1 n1 c1], .agg #[.int .i64 W2, .int .i64 R2, .slice a2 n2 c2], .int .i64 r] w fun v w' =>
      ∃ a c a' c', v = .tuple #[.agg #[.int .i64 W3, .int .i64 R3, .slice a ws3.length c], .agg #[.int .i64 W4, .int .i64 R4, .slice a' ws4.length c'], .int .i64 no] ∧ Fresh w w' [Row a ws3.length c 41 1 (u64s ws3), Row a' ws4.length c' 41 1 (u64s ws4)] := by
  have := move_r w W1 R1 W2 R2 r a1 a2 n1 c1 n2 c2 ws1 ws2 h1 h2 hsm
  rw [hm] at this; exact this
theorem rows_v {w : World} {W R : Int} {a : Option Addr} {n c : Nat} {ws : List Int} {xss : List (List Int)} (hx : rowsF W R ws = xss) (h : WR w a n c ws) :
    Ret Try.prog 27 #[.agg #[.int .i64 W, .int .i64 R, .slice a n c]] w fun v w' => ∃ Rg a' c' cells, v = .slice a' xss.length c' ∧ Fresh w w' [Row a' xss.length c' 31 1 cells, Dats Rg D64 cells xss] := by
  have := rows_r w W R a n c ws h
  rw [hx] at this; exact this
/-- Rows, in order, from chunks that are held. -/
theorem sorted_s {w0 w : World} {F : Nat → Prop} {L : List HP} (hs : St w0 F w L) (a : Option Addr) (n c : Nat) {cells : List Value} {f : HP → List HP} [RowAt L a n c 31 1 cells f] {R : Nat → Prop} {xss : List (List Int)} [DatsAt L cells (List Int) R D64 xss] (hn : n ≤ 4000000000) :
    Ret Try.prog 32 #[.slice a n c] w fun v w' => ∃ zs : List (Value × List Int), zs.Perm (cells.zip xss) ∧ (zs.map Prod.snd).Pairwise (fun x y => 0 ≤ cmpL y x) ∧ ∃ a' c', v = .slice a' n c' ∧ Fresh w w' [Row a' n c' 31 1 (zs.map Prod.fst)] :=
  sorted_r w a n c cells xss R (RowV.srcAll (hs.row a n c) (hs.dats cells).one) (fun _ => (hs.row a n c).plain) hn (hs.dats cells)
theorem zip_snd {cells : List Value} {xss : List (List Int)} {zs : List (Value × List Int)} (h : zs.Perm (cells.zip xss)) (hl : cells.length = xss.length) : (zs.map Prod.snd).Perm xss := by
  have := h.map Prod.snd
  rwa [List.map_snd_zip (by omega)] at this
attribute [local irreducible] Hold J JL JD JX JXat OpR OpG Ret RetV Is Blk Row
set_option maxRecDepth 100000
set_option maxHeartbeats 4000000
set_option linter.unusedSimpArgs false
set_option linter.unusedVariables false
end Go.Eng
