/- Column: the law ColumnThere. -/
import Derived.Test.YtkeejkengoolpaaC17
namespace Go.Eng
open Go.Proofs
theorem without_perm {l : List (List Int)} {i : Nat} {x : List Int} (h : l[i]? = some x) : (withoutM l i ++ [x]).Perm l := by
  obtain ⟨hi, hx⟩ := List.getElem?_eq_some_iff.1 h
  have hne : l ≠ [] := by intro e; subst e; simp at hi
  obtain ⟨f, y, rfl⟩ : ∃ f y, l = f ++ [y] := ⟨l.dropLast, l.getLast hne, (List.dropLast_concat_getLast hne).symm⟩
  have hl : (f ++ [y]).length - 1 = f.length := by simp
  have hg : (f ++ [y]).getD ((f ++ [y]).length - 1) [] = y := by rw [hl]; simp
  unfold withoutM
  rw [hg, hl]
  by_cases hif : i < f.length
  · rw [List.set_append_left _ _ hif, List.take_left' (by simp)]
    have hxf : f[i] = x := by rw [← hx]; exact (List.getElem_append_left hif).symm
    have e1 : f.set i y = f.take i ++ y :: f.drop (i + 1) := List.set_eq_take_append_cons_drop.trans (if_pos hif)
    have e2 : f = f.take i ++ x :: f.drop (i + 1) := by
      conv => lhs; rw [← List.take_append_drop i f, List.drop_eq_getElem_cons hif, hxf]
    have p1 : (f.take i ++ y :: f.drop (i + 1) ++ [x]).Perm (x :: y :: (f.take i ++ f.drop (i + 1))) :=
      List.perm_append_comm.trans (List.Perm.cons x List.perm_middle)
    have p2 : (f.take i ++ x :: f.drop (i + 1) ++ [y]).Perm (y :: x :: (f.take i ++ f.drop (i + 1))) :=
      List.perm_append_comm.trans (List.Perm.cons y List.perm_middle)
    rw [e1]
    conv => rhs; rw [e2]
    exact p1.trans ((List.Perm.swap y x _).trans p2.symm)
  · have hie : i = f.length := by simp at hi; omega
    subst hie
    have hxy : y = x := by simpa using hx
    subst hxy
    rw [List.set_append_right _ _ (Nat.le_refl _), List.take_left' rfl]
section
variable {W R r : Int} {ws : List Int}
theorem rows_moved (hB : colB W R ws.length = true) (hr : 0 ≤ r ∧ r < R) : rowsM W R (swapW W R r ws ++ rowOf W r ws) = withoutM (rowsM W R ws) r.toNat ++ [rowOf W r ws] := by
  have hw := colB_W hB
  have hlen := rowsM_len W R ws
  have e : swapW W R r ws ++ rowOf W r ws = (withoutM (rowsM W R ws) r.toNat ++ [rowOf W r ws]).flatten := by rw [List.flatten_append, without_flat hB hr]; simp
  rw [e]
  refine rowsM_of (by omega) (fun v hv => ?_) ?_
  · have hv2 := (without_perm (rowsM_get (W := W) (ws := ws) hr)).mem_iff.1 hv
    exact rowsM_W hB v hv2
  · rw [(without_perm (rowsM_get (W := W) (ws := ws) hr)).length_eq]; exact hlen
theorem rows_moved_perm (hB : colB W R ws.length = true) (hr : 0 ≤ r ∧ r < R) : (rowsM W R (swapW W R r ws ++ rowOf W r ws)).Perm (rowsM W R ws) := by
  rw [rows_moved hB hr]; exact without_perm (rowsM_get hr)
theorem swapW_len (hB : colB W R ws.length = true) (hr : 0 ≤ r ∧ r < R) : ((swapW W R r ws).length : Int) = (R - 1) * W := by
  have hbd := row_bd hB hr
  have hw := colB_W hB
  rw [swapW, List.length_take, spl_length (by simp; omega)]; omega
theorem rowOf_len (hB : colB W R ws.length = true) (hr : 0 ≤ r ∧ r < R) : ((rowOf W r ws).length : Int) = W := by
  have hbd := row_bd hB hr
  have hw := colB_W hB
  simp [rowOf]; omega
theorem colB_swap (hB : colB W R ws.length = true) (hr : 0 ≤ r ∧ r < R) : colB W (R - 1) (swapW W R r ws).length = true := by
  have hl := swapW_len hB hr
  have hw := colB_W hB
  rw [colB_iff]
  have := Int.mul_comm W (R - 1)
  omega
theorem colB_push {vs : List Int} (hB : colB W R ws.length = true) (hR : R ≤ 1000) (hv : (vs.length : Int) = W) : colB W (R + 1) (ws ++ vs).length = true := by
  have hw := colB_W hB
  rw [colB_iff, List.length_append]
  have : W * (R + 1) = W * R + W := by rw [Int.mul_add, Int.mul_one]
  omega
theorem rowOf_push {vs : List Int} (hB : colB W R ws.length = true) (hv : (vs.length : Int) = W) : rowOf W R (ws ++ vs) = vs := by
  have hw := colB_W hB
  have : W * R = R * W := Int.mul_comm _ _
  unfold rowOf
  rw [List.drop_left' (by omega), List.take_of_length_le (by omega)]
theorem swapW_push {vs : List Int} (hB : colB W R ws.length = true) (hv : (vs.length : Int) = W) : swapW W (R + 1) R (ws ++ vs) = ws := by
  have hw := colB_W hB
  have : W * R = R * W := Int.mul_comm _ _
  unfold swapW spl
  have e : (R * W).toNat = ws.length := by omega
  rw [show R + 1 - 1 = R by omega, e, List.take_left, List.append_assoc, List.take_left]
end
theorem move_v {w : World} {W1 R1 W2 R2 r : Int} {a1 a2 : Option Addr} {n1 c1 n2 c2 : Nat} {ws1 ws2 : List Int} {W3 R3 : Int} {ws3 : List Int} {W4 R4 : Int} {ws4 : List Int} {no : Int} (hm : moveM W1 R1 W2 R2 r ws1 ws2 = ((W3, R3, ws3), (W4, R4, ws4), no)) (h1 : WR w a1 n1 c1 ws1) (h2 : WR w a2 n2 c2 ws2) (hsm : colB W2 R2 n2 = true → R2 ≤ 1000) :
    Ret Try.prog 25 #[.agg #[.int .i64 W1, .int .i64 R1, .slice a1 n1 c1], .agg #[.int .i64 W2, .int .i64 R2, .slice a2 n2 c2], .int .i64 r] w fun v w' =>
      ∃ a c a' c', v = .tuple #[.agg #[.int .i64 W3, .int .i64 R3, .slice a ws3.length c], .agg #[.int .i64 W4, .int .i64 R4, .slice a' ws4.length c'], .int .i64 no] ∧ Fresh w w' [Row a ws3.length c 41 1 (u64s ws3), Row a' ws4.length c' 41 1 (u64s ws4)] := by
  have := move_r w W1 R1 W2 R2 r a1 a2 n1 c1 n2 c2 ws1 ws2 h1 h2 hsm
  rw [hm] at this; exact this
theorem rows_v {w : World} {W R : Int} {a : Option Addr} {n c : Nat} {ws : List Int} {xss : List (List Int)} (hx : rowsF W R ws = xss) (h : WR w a n c ws) :
    Ret Try.prog 27 #[.agg #[.int .i64 W, .int .i64 R, .slice a n c]] w fun v w' => ∃ Rg a' c' cells, v = .slice a' xss.length c' ∧ Fresh w w' [Row a' xss.length c' 31 1 cells, Dats Rg D64 cells xss] := by
  have := rows_r w W R a n c ws h
  rw [hx] at this; exact this
/-- Rows, in order, from chunks that are held. -/
theorem sorted_s {w0 w : World} {F : Nat → Prop} {L : List HP} (hs : St w0 F w L) (a : Option Addr) (n c : Nat) {cells : List Value} {f : HP → List HP} [RowAt L a n c 31 1 cells f] {R : Nat → Prop} {xss : List (List Int)} [DatsAt L cells (List Int) R D64 xss] (hn : n ≤ 4000000000) :
    Ret Try.prog 32 #[.slice a n c] w fun v w' => ∃ zs : List (Value × List Int), zs.Perm (cells.zip xss) ∧ (zs.map Prod.snd).Pairwise (fun x y => 0 ≤ cmpL y x) ∧ ∃ a' c', v = .slice a' n c' ∧ Fresh w w' [Row a' n c' 31 1 (zs.map Prod.fst)] :=
  sorted_r w a n c cells xss R (RowV.srcAll (hs.row a n c) (hs.dats cells).one) (fun _ => (hs.row a n c).plain) hn (hs.dats cells)
theorem zip_snd {cells : List Value} {xss : List (List Int)} {zs : List (Value × List Int)} (h : zs.Perm (cells.zip xss)) (hl : cells.length = xss.length) : (zs.map Prod.snd).Perm xss := by
  have := h.map Prod.snd
  rwa [List.map_snd_zip (by omega)] at this
attribute [local irreducible] Hold J JL JD JX JXat OpR OpG Ret RetV Is Blk Row
set_option maxRecDepth 100000
set_option maxHeartbeats 4000000
set_option linter.unusedSimpArgs false
set_option linter.unusedVariables false
theorem columnThere_w (w : World) (W1 R1 : Int) (a1 : Option Addr) (n1 c1 : Nat) (ws1 : List Int) (W2 R2 : Int) (a2 : Option Addr) (n2 c2 : Nat) (ws2 : List Int) (r : Int) (_ : inK .i64 W1) (_ : inK .i64 R1) (h1s : Sl (tInt .u64) All w a1 n1 c1 ws1) (_ : inK .i64 W2) (_ : inK .i64 R2) (h2s : Sl (tInt .u64) All w a2 n2 c2 ws2) (_ : inK .i64 r) :
    Ret Try.prog 8 #[.agg #[.int .i64 W1, .int .i64 R1, .slice a1 n1 c1], .agg #[.int .i64 W2, .int .i64 R2, .slice a2 n2 c2], .int .i64 r] w fun v w' => v = .bool true ∧ Ext w w' := by
  refine Ret_of (l := [_, _, _]) Try.func8 rfl Try.ntmps8 (by simp) ?_
  have hs := St.init w
  have h1 := h1s.wr
  have h2 := h2s.wr
  obtain ⟨ca, hca⟩ : ∃ c0, c0 = ws1.take 60 := ⟨_, rfl⟩
  obtain ⟨cb, hcb⟩ : ∃ c0, c0 = ws2.take 60 := ⟨_, rfl⟩
  have huA : U64 ca := by rw [hca]; exact u64_take h1.u64 _
  have huB : U64 cb := by rw [hcb]; exact u64_take h2.u64 _
  have hca60 : ca.length ≤ 60 := by rw [hca]; simp; omega
  have hcb60 : cb.length ≤ 60 := by rw [hcb]; simp; omega
  by_cases hok : (colB W1 R1 ca.length = true ∧ colB W2 R2 cb.length = true) ∧ (0 ≤ r ∧ r < R1) ∧ W1 = W2
  · obtain ⟨⟨hA, hB⟩, hr, rfl⟩ := hok
    obtain ⟨sA, hsA⟩ : ∃ s, s = swapW W1 R1 r ca := ⟨_, rfl⟩
    obtain ⟨rw_, hrw⟩ : ∃ s, s = rowOf W1 r ca := ⟨_, rfl⟩
    have hm : moveM W1 R1 W1 R2 r ca cb = ((W1, R1 - 1, sA), (W1, R2 + 1, cb ++ rw_), 0) := by unfold moveM; rw [if_pos hA, if_pos hB, if_pos ⟨hr, rfl⟩, hsA, hrw]
    have hwA := colB_W hA
    have hwB := colB_W hB
    have hrl : (rw_.length : Int) = W1 := by rw [hrw]; exact rowOf_len hA hr
    have hA2 : colB W1 (R1 - 1) sA.length = true := by rw [hsA]; exact colB_swap hA hr
    have hsAl : sA.length ≤ 60 := by
      rw [hsA, swapW, List.length_take]
      have := row_bd hA hr
      rw [spl_length (by simp; omega)]; omega
    have huR : U64 rw_ := by rw [hrw]; exact u64_row huA
    have huS : U64 sA := by rw [hsA]; exact u64_swap huA
    have huP : U64 (cb ++ rw_) := fun x hx => by rcases List.mem_append.1 hx with h | h; exact huB x h; exact huR x h
    have huT : U64 (sA ++ rw_) := fun x hx => by rcases List.mem_append.1 hx with h | h; exact huS x h; exact huR x h
    have hnA := rowsM_len W1 R1 ca
    have hnT := rowsM_len W1 R1 (sA ++ rw_)
    have hF1 : rowsF W1 R1 ca = rowsM W1 R1 ca := by unfold rowsF; rw [if_pos hA]
    have hT : colB W1 R1 (sA ++ rw_).length = true := by
      have e := colB_iff.1 hA2
      have e1 := colB_iff.1 hA
      rw [colB_iff, List.length_append]
      have : W1 * (R1 - 1) = W1 * R1 - W1 := by rw [Int.mul_sub, Int.mul_one]
      omega
    have hF2 : rowsF W1 R1 (sA ++ rw_) = rowsM W1 R1 (sA ++ rw_) := by unfold rowsF; rw [if_pos hT]
    have hperm : (rowsM W1 R1 (sA ++ rw_)).Perm (rowsM W1 R1 ca) := by rw [hsA, hrw]; exact rows_moved_perm hA hr
    obtain ⟨rA, hrA⟩ : ∃ x, x = rowsM W1 R1 ca := ⟨_, rfl⟩
    obtain ⟨rT, hrT⟩ : ∃ x, x = rowsM W1 R1 (sA ++ rw_) := ⟨_, rfl⟩
    rw [← hrA] at hF1 hperm hnA
    rw [← hrT] at hF2 hperm hnT
    have hsm2 : R2 ≤ 1000 → colB W1 (R2 + 1) (cb ++ rw_).length = true := fun h => colB_push hB h hrl
    have hm2 : R2 ≤ 1000 → moveM W1 (R2 + 1) W1 (R1 - 1) R2 (cb ++ rw_) sA = ((W1, R2, cb), (W1, R1, sA ++ rw_), 0) := fun h => by
      unfold moveM
      rw [if_pos (hsm2 h), if_pos hA2, if_pos ⟨⟨by omega, by omega⟩, rfl⟩, swapW_push hB hrl, rowOf_push hB hrl, show R2 + 1 - 1 = R2 by omega, show R1 - 1 + 1 = R1 by omega]
    have hsq : ∀ W R n, (!smallB W R n) = false → colB W R n = true → R ≤ 200 := fun W R n h h2 => by simp [smallB, h2] at h; exact h
    repeat' (first
      | ((apply al_call 9; refine JL_o (by exact OpR_callF en9 rfl (wakes_r _)) rfl rfl ?_; rintro _ _ ⟨hE, rfl⟩; have hs := hs.ext hE; (try simp only [List.cons_append, List.nil_append] at hs)))
      | ((apply al_callg 9; refine JL_o_on rfl (by first | assumption | rfl | exact decide_eq_true (by first | assumption | omega) | exact decide_eq_false (by first | assumption | omega)) (by exact OpR_callF en9 rfl (wakes_r _)) rfl rfl ?_; rintro _ _ ⟨hE, rfl⟩; have hs := hs.ext hE; (try simp only [List.cons_append, List.nil_append] at hs)))
      | ((apply ax_c; apply JX_cF 9; exact rfl; (intro W X hN hs; exact OpR_callF en9 rfl (wakes_r _)); (rintro _ _ _ _ ⟨hE, rfl⟩; first | exact hE | exact Fresh.ext hf); rintro W X _ _ hN hs ⟨hE, rfl⟩; have hs := hs.ext hE; (try simp only [List.cons_append, List.nil_append] at hs); refine JX.at hs ?_))
      | ((apply ax_c; apply JX_cFg 9; exact rfl; exact rfl; exact (by first | assumption | rfl | exact decide_eq_true (by first | assumption | omega) | exact decide_eq_false (by first | assumption | omega)); (intro W X hN hs; exact OpR_callF en9 rfl (wakes_r _)); (rintro _ _ _ _ ⟨hE, rfl⟩; first | exact hE | exact Fresh.ext hf); rintro W X _ _ hN hs ⟨hE, rfl⟩; have hs := hs.ext hE; (try simp only [List.cons_append, List.nil_append] at hs); refine JX.at hs ?_))
      | ((apply al_call 10; refine JL_o (by exact OpR_callF en10 rfl (own_r _ W1 R1 a1 n1 c1 ws1 (h1.st hs))) rfl rfl ?_; rintro _ _ ⟨ac, cc, rfl, hf⟩; rw [← hca] at hf ⊢; have hs := hs.fresh hf; (try simp only [List.cons_append, List.nil_append] at hs)))
      | ((apply al_callg 10; refine JL_o_on rfl (by first | assumption | rfl | exact decide_eq_true (by first | assumption | omega) | exact decide_eq_false (by first | assumption | omega)) (by exact OpR_callF en10 rfl (own_r _ W1 R1 a1 n1 c1 ws1 (h1.st hs))) rfl rfl ?_; rintro _ _ ⟨ac, cc, rfl, hf⟩; rw [← hca] at hf ⊢; have hs := hs.fresh hf; (try simp only [List.cons_append, List.nil_append] at hs)))
      | ((apply ax_c; apply JX_cF 10; exact rfl; (intro W X hN hs; exact OpR_callF en10 rfl (own_r _ W1 R1 a1 n1 c1 ws1 (h1.st hs))); (rintro _ _ _ _ ⟨ac, cc, rfl, hf⟩; first | exact hE | exact Fresh.ext hf); rintro W X _ _ hN hs ⟨ac, cc, rfl, hf⟩; rw [← hca] at hf ⊢; have hs := hs.fresh hf; (try simp only [List.cons_append, List.nil_append] at hs); refine JX.at hs ?_))
      | ((apply ax_c; apply JX_cFg 10; exact rfl; exact rfl; exact (by first | assumption | rfl | exact decide_eq_true (by first | assumption | omega) | exact decide_eq_false (by first | assumption | omega)); (intro W X hN hs; exact OpR_callF en10 rfl (own_r _ W1 R1 a1 n1 c1 ws1 (h1.st hs))); (rintro _ _ _ _ ⟨ac, cc, rfl, hf⟩; first | exact hE | exact Fresh.ext hf); rintro W X _ _ hN hs ⟨ac, cc, rfl, hf⟩; rw [← hca] at hf ⊢; have hs := hs.fresh hf; (try simp only [List.cons_append, List.nil_append] at hs); refine JX.at hs ?_))
      | ((apply al_call 10; refine JL_o (by exact OpR_callF en10 rfl (own_r _ W1 R2 a2 n2 c2 ws2 (h2.st hs))) rfl rfl ?_; rintro _ _ ⟨ab, cbc, rfl, hf⟩; rw [← hcb] at hf ⊢; have hs := hs.fresh hf; (try simp only [List.cons_append, List.nil_append] at hs)))
      | ((apply al_callg 10; refine JL_o_on rfl (by first | assumption | rfl | exact decide_eq_true (by first | assumption | omega) | exact decide_eq_false (by first | assumption | omega)) (by exact OpR_callF en10 rfl (own_r _ W1 R2 a2 n2 c2 ws2 (h2.st hs))) rfl rfl ?_; rintro _ _ ⟨ab, cbc, rfl, hf⟩; rw [← hcb] at hf ⊢; have hs := hs.fresh hf; (try simp only [List.cons_append, List.nil_append] at hs)))
      | ((apply ax_c; apply JX_cF 10; exact rfl; (intro W X hN hs; exact OpR_callF en10 rfl (own_r _ W1 R2 a2 n2 c2 ws2 (h2.st hs))); (rintro _ _ _ _ ⟨ab, cbc, rfl, hf⟩; first | exact hE | exact Fresh.ext hf); rintro W X _ _ hN hs ⟨ab, cbc, rfl, hf⟩; rw [← hcb] at hf ⊢; have hs := hs.fresh hf; (try simp only [List.cons_append, List.nil_append] at hs); refine JX.at hs ?_))
      | ((apply ax_c; apply JX_cFg 10; exact rfl; exact rfl; exact (by first | assumption | rfl | exact decide_eq_true (by first | assumption | omega) | exact decide_eq_false (by first | assumption | omega)); (intro W X hN hs; exact OpR_callF en10 rfl (own_r _ W1 R2 a2 n2 c2 ws2 (h2.st hs))); (rintro _ _ _ _ ⟨ab, cbc, rfl, hf⟩; first | exact hE | exact Fresh.ext hf); rintro W X _ _ hN hs ⟨ab, cbc, rfl, hf⟩; rw [← hcb] at hf ⊢; have hs := hs.fresh hf; (try simp only [List.cons_append, List.nil_append] at hs); refine JX.at hs ?_))
      | ((apply al_call 12; refine JL_o (by exact OpR_callF en12 rfl (small_r _ W1 R1 ac ca.length cc)) rfl rfl ?_; rintro _ _ ⟨hE, rfl⟩; have hs := hs.ext hE; (try simp only [List.cons_append, List.nil_append] at hs)))
      | ((apply al_callg 12; refine JL_o_on rfl (by first | assumption | rfl | exact decide_eq_true (by first | assumption | omega) | exact decide_eq_false (by first | assumption | omega)) (by exact OpR_callF en12 rfl (small_r _ W1 R1 ac ca.length cc)) rfl rfl ?_; rintro _ _ ⟨hE, rfl⟩; have hs := hs.ext hE; (try simp only [List.cons_append, List.nil_append] at hs)))
      | ((apply ax_c; apply JX_cF 12; exact rfl; (intro W X hN hs; exact OpR_callF en12 rfl (small_r _ W1 R1 ac ca.length cc)); (rintro _ _ _ _ ⟨hE, rfl⟩; first | exact hE | exact Fresh.ext hf); rintro W X _ _ hN hs ⟨hE, rfl⟩; have hs := hs.ext hE; (try simp only [List.cons_append, List.nil_append] at hs); refine JX.at hs ?_))
      | ((apply ax_c; apply JX_cFg 12; exact rfl; exact rfl; exact (by first | assumption | rfl | exact decide_eq_true (by first | assumption | omega) | exact decide_eq_false (by first | assumption | omega)); (intro W X hN hs; exact OpR_callF en12 rfl (small_r _ W1 R1 ac ca.length cc)); (rintro _ _ _ _ ⟨hE, rfl⟩; first | exact hE | exact Fresh.ext hf); rintro W X _ _ hN hs ⟨hE, rfl⟩; have hs := hs.ext hE; (try simp only [List.cons_append, List.nil_append] at hs); refine JX.at hs ?_))
      | ((apply al_call 12; refine JL_o (by exact OpR_callF en12 rfl (small_r _ W1 R2 ab cb.length cbc)) rfl rfl ?_; rintro _ _ ⟨hE, rfl⟩; have hs := hs.ext hE; (try simp only [List.cons_append, List.nil_append] at hs)))
      | ((apply al_callg 12; refine JL_o_on rfl (by first | assumption | rfl | exact decide_eq_true (by first | assumption | omega) | exact decide_eq_false (by first | assumption | omega)) (by exact OpR_callF en12 rfl (small_r _ W1 R2 ab cb.length cbc)) rfl rfl ?_; rintro _ _ ⟨hE, rfl⟩; have hs := hs.ext hE; (try simp only [List.cons_append, List.nil_append] at hs)))
      | ((apply ax_c; apply JX_cF 12; exact rfl; (intro W X hN hs; exact OpR_callF en12 rfl (small_r _ W1 R2 ab cb.length cbc)); (rintro _ _ _ _ ⟨hE, rfl⟩; first | exact hE | exact Fresh.ext hf); rintro W X _ _ hN hs ⟨hE, rfl⟩; have hs := hs.ext hE; (try simp only [List.cons_append, List.nil_append] at hs); refine JX.at hs ?_))
      | ((apply ax_c; apply JX_cFg 12; exact rfl; exact rfl; exact (by first | assumption | rfl | exact decide_eq_true (by first | assumption | omega) | exact decide_eq_false (by first | assumption | omega)); (intro W X hN hs; exact OpR_callF en12 rfl (small_r _ W1 R2 ab cb.length cbc)); (rintro _ _ _ _ ⟨hE, rfl⟩; first | exact hE | exact Fresh.ext hf); rintro W X _ _ hN hs ⟨hE, rfl⟩; have hs := hs.ext hE; (try simp only [List.cons_append, List.nil_append] at hs); refine JX.at hs ?_))
      | ((apply al_call 25; refine JL_o (by exact OpR_callF en25 rfl (move_v hm ((hs.row ac ca.length cc).wr huA) ((hs.row ab cb.length cbc).wr huB) (fun h => by have := hsq _ _ _ (by assumption) h; omega))) rfl rfl ?_; rintro _ _ ⟨as_, cs_, at_, ct, rfl, hf⟩; have hs := hs.fresh hf; (try simp only [List.cons_append, List.nil_append] at hs)))
      | ((apply al_callg 25; refine JL_o_on rfl (by first | assumption | rfl | exact decide_eq_true (by first | assumption | omega) | exact decide_eq_false (by first | assumption | omega)) (by exact OpR_callF en25 rfl (move_v hm ((hs.row ac ca.length cc).wr huA) ((hs.row ab cb.length cbc).wr huB) (fun h => by have := hsq _ _ _ (by assumption) h; omega))) rfl rfl ?_; rintro _ _ ⟨as_, cs_, at_, ct, rfl, hf⟩; have hs := hs.fresh hf; (try simp only [List.cons_append, List.nil_append] at hs)))
      | ((apply ax_c; apply JX_cF 25; exact rfl; (intro W X hN hs; exact OpR_callF en25 rfl (move_v hm ((hs.row ac ca.length cc).wr huA) ((hs.row ab cb.length cbc).wr huB) (fun h => by have := hsq _ _ _ (by assumption) h; omega))); (rintro _ _ _ _ ⟨as_, cs_, at_, ct, rfl, hf⟩; first | exact hE | exact Fresh.ext hf); rintro W X _ _ hN hs ⟨as_, cs_, at_, ct, rfl, hf⟩; have hs := hs.fresh hf; (try simp only [List.cons_append, List.nil_append] at hs); refine JX.at hs ?_))
      | ((apply ax_c; apply JX_cFg 25; exact rfl; exact rfl; exact (by first | assumption | rfl | exact decide_eq_true (by first | assumption | omega) | exact decide_eq_false (by first | assumption | omega)); (intro W X hN hs; exact OpR_callF en25 rfl (move_v hm ((hs.row ac ca.length cc).wr huA) ((hs.row ab cb.length cbc).wr huB) (fun h => by have := hsq _ _ _ (by assumption) h; omega))); (rintro _ _ _ _ ⟨as_, cs_, at_, ct, rfl, hf⟩; first | exact hE | exact Fresh.ext hf); rintro W X _ _ hN hs ⟨as_, cs_, at_, ct, rfl, hf⟩; have hs := hs.fresh hf; (try simp only [List.cons_append, List.nil_append] at hs); refine JX.at hs ?_))
      | ((apply al_call 28; refine JL_o (by exact OpR_callF en28 rfl (check_v _ W1 (R1 - 1) as_ sA.length cs_ true hA2)) rfl rfl ?_; rintro _ _ ⟨hE, rfl⟩; have hs := hs.ext hE; (try simp only [List.cons_append, List.nil_append] at hs)))
      | ((apply al_callg 28; refine JL_o_on rfl (by first | assumption | rfl | exact decide_eq_true (by first | assumption | omega) | exact decide_eq_false (by first | assumption | omega)) (by exact OpR_callF en28 rfl (check_v _ W1 (R1 - 1) as_ sA.length cs_ true hA2)) rfl rfl ?_; rintro _ _ ⟨hE, rfl⟩; have hs := hs.ext hE; (try simp only [List.cons_append, List.nil_append] at hs)))
      | ((apply ax_c; apply JX_cF 28; exact rfl; (intro W X hN hs; exact OpR_callF en28 rfl (check_v _ W1 (R1 - 1) as_ sA.length cs_ true hA2)); (rintro _ _ _ _ ⟨hE, rfl⟩; first | exact hE | exact Fresh.ext hf); rintro W X _ _ hN hs ⟨hE, rfl⟩; have hs := hs.ext hE; (try simp only [List.cons_append, List.nil_append] at hs); refine JX.at hs ?_))
      | ((apply ax_c; apply JX_cFg 28; exact rfl; exact rfl; exact (by first | assumption | rfl | exact decide_eq_true (by first | assumption | omega) | exact decide_eq_false (by first | assumption | omega)); (intro W X hN hs; exact OpR_callF en28 rfl (check_v _ W1 (R1 - 1) as_ sA.length cs_ true hA2)); (rintro _ _ _ _ ⟨hE, rfl⟩; first | exact hE | exact Fresh.ext hf); rintro W X _ _ hN hs ⟨hE, rfl⟩; have hs := hs.ext hE; (try simp only [List.cons_append, List.nil_append] at hs); refine JX.at hs ?_))
      | ((apply al_call 28; refine JL_o (by exact OpR_callF en28 rfl (check_v _ W1 (R2 + 1) at_ (cb ++ rw_).length ct true (hsm2 (by have := hsq W1 R2 cb.length (by assumption) hB; omega)))) rfl rfl ?_; rintro _ _ ⟨hE, rfl⟩; have hs := hs.ext hE; (try simp only [List.cons_append, List.nil_append] at hs)))
      | ((apply al_callg 28; refine JL_o_on rfl (by first | assumption | rfl | exact decide_eq_true (by first | assumption | omega) | exact decide_eq_false (by first | assumption | omega)) (by exact OpR_callF en28 rfl (check_v _ W1 (R2 + 1) at_ (cb ++ rw_).length ct true (hsm2 (by have := hsq W1 R2 cb.length (by assumption) hB; omega)))) rfl rfl ?_; rintro _ _ ⟨hE, rfl⟩; have hs := hs.ext hE; (try simp only [List.cons_append, List.nil_append] at hs)))
      | ((apply ax_c; apply JX_cF 28; exact rfl; (intro W X hN hs; exact OpR_callF en28 rfl (check_v _ W1 (R2 + 1) at_ (cb ++ rw_).length ct true (hsm2 (by have := hsq W1 R2 cb.length (by assumption) hB; omega)))); (rintro _ _ _ _ ⟨hE, rfl⟩; first | exact hE | exact Fresh.ext hf); rintro W X _ _ hN hs ⟨hE, rfl⟩; have hs := hs.ext hE; (try simp only [List.cons_append, List.nil_append] at hs); refine JX.at hs ?_))
      | ((apply ax_c; apply JX_cFg 28; exact rfl; exact rfl; exact (by first | assumption | rfl | exact decide_eq_true (by first | assumption | omega) | exact decide_eq_false (by first | assumption | omega)); (intro W X hN hs; exact OpR_callF en28 rfl (check_v _ W1 (R2 + 1) at_ (cb ++ rw_).length ct true (hsm2 (by have := hsq W1 R2 cb.length (by assumption) hB; omega)))); (rintro _ _ _ _ ⟨hE, rfl⟩; first | exact hE | exact Fresh.ext hf); rintro W X _ _ hN hs ⟨hE, rfl⟩; have hs := hs.ext hE; (try simp only [List.cons_append, List.nil_append] at hs); refine JX.at hs ?_))
      | ((apply al_call 25; refine JL_o (by exact OpR_callF en25 rfl (move_v (hm2 (by have := hsq W1 R2 cb.length (by assumption) hB; omega)) ((hs.row at_ (cb ++ rw_).length ct).wr huP) ((hs.row as_ sA.length cs_).wr huS) (fun h => by have := hsq W1 R1 ca.length (by assumption) hA; omega))) rfl rfl ?_; rintro _ _ ⟨au, cu, av, cv, rfl, hf⟩; have hs := hs.fresh hf; (try simp only [List.cons_append, List.nil_append] at hs)))
      | ((apply al_callg 25; refine JL_o_on rfl (by first | assumption | rfl | exact decide_eq_true (by first | assumption | omega) | exact decide_eq_false (by first | assumption | omega)) (by exact OpR_callF en25 rfl (move_v (hm2 (by have := hsq W1 R2 cb.length (by assumption) hB; omega)) ((hs.row at_ (cb ++ rw_).length ct).wr huP) ((hs.row as_ sA.length cs_).wr huS) (fun h => by have := hsq W1 R1 ca.length (by assumption) hA; omega))) rfl rfl ?_; rintro _ _ ⟨au, cu, av, cv, rfl, hf⟩; have hs := hs.fresh hf; (try simp only [List.cons_append, List.nil_append] at hs)))
      | ((apply ax_c; apply JX_cF 25; exact rfl; (intro W X hN hs; exact OpR_callF en25 rfl (move_v (hm2 (by have := hsq W1 R2 cb.length (by assumption) hB; omega)) ((hs.row at_ (cb ++ rw_).length ct).wr huP) ((hs.row as_ sA.length cs_).wr huS) (fun h => by have := hsq W1 R1 ca.length (by assumption) hA; omega))); (rintro _ _ _ _ ⟨au, cu, av, cv, rfl, hf⟩; first | exact hE | exact Fresh.ext hf); rintro W X _ _ hN hs ⟨au, cu, av, cv, rfl, hf⟩; have hs := hs.fresh hf; (try simp only [List.cons_append, List.nil_append] at hs); refine JX.at hs ?_))
      | ((apply ax_c; apply JX_cFg 25; exact rfl; exact rfl; exact (by first | assumption | rfl | exact decide_eq_true (by first | assumption | omega) | exact decide_eq_false (by first | assumption | omega)); (intro W X hN hs; exact OpR_callF en25 rfl (move_v (hm2 (by have := hsq W1 R2 cb.length (by assumption) hB; omega)) ((hs.row at_ (cb ++ rw_).length ct).wr huP) ((hs.row as_ sA.length cs_).wr huS) (fun h => by have := hsq W1 R1 ca.length (by assumption) hA; omega))); (rintro _ _ _ _ ⟨au, cu, av, cv, rfl, hf⟩; first | exact hE | exact Fresh.ext hf); rintro W X _ _ hN hs ⟨au, cu, av, cv, rfl, hf⟩; have hs := hs.fresh hf; (try simp only [List.cons_append, List.nil_append] at hs); refine JX.at hs ?_))
      | ((apply al_call 26; refine JL_o (by exact OpR_callF en26 rfl (same26_t _ W1 R2 W1 R2 au ab _ _ _ _ cb ((hs.row au cb.length cu).wr huB) ((hs.row ab cb.length cbc).wr huB) ⟨rfl, rfl⟩)) rfl rfl ?_; rintro _ _ ⟨rfl, hE⟩; have hs := hs.ext hE; (try simp only [List.cons_append, List.nil_append] at hs)))
      | ((apply al_callg 26; refine JL_o_on rfl (by first | assumption | rfl | exact decide_eq_true (by first | assumption | omega) | exact decide_eq_false (by first | assumption | omega)) (by exact OpR_callF en26 rfl (same26_t _ W1 R2 W1 R2 au ab _ _ _ _ cb ((hs.row au cb.length cu).wr huB) ((hs.row ab cb.length cbc).wr huB) ⟨rfl, rfl⟩)) rfl rfl ?_; rintro _ _ ⟨rfl, hE⟩; have hs := hs.ext hE; (try simp only [List.cons_append, List.nil_append] at hs)))
      | ((apply ax_c; apply JX_cF 26; exact rfl; (intro W X hN hs; exact OpR_callF en26 rfl (same26_t _ W1 R2 W1 R2 au ab _ _ _ _ cb ((hs.row au cb.length cu).wr huB) ((hs.row ab cb.length cbc).wr huB) ⟨rfl, rfl⟩)); (rintro _ _ _ _ ⟨rfl, hE⟩; first | exact hE | exact Fresh.ext hf); rintro W X _ _ hN hs ⟨rfl, hE⟩; have hs := hs.ext hE; (try simp only [List.cons_append, List.nil_append] at hs); refine JX.at hs ?_))
      | ((apply ax_c; apply JX_cFg 26; exact rfl; exact rfl; exact (by first | assumption | rfl | exact decide_eq_true (by first | assumption | omega) | exact decide_eq_false (by first | assumption | omega)); (intro W X hN hs; exact OpR_callF en26 rfl (same26_t _ W1 R2 W1 R2 au ab _ _ _ _ cb ((hs.row au cb.length cu).wr huB) ((hs.row ab cb.length cbc).wr huB) ⟨rfl, rfl⟩)); (rintro _ _ _ _ ⟨rfl, hE⟩; first | exact hE | exact Fresh.ext hf); rintro W X _ _ hN hs ⟨rfl, hE⟩; have hs := hs.ext hE; (try simp only [List.cons_append, List.nil_append] at hs); refine JX.at hs ?_))
      | ((apply al_call 27; refine JL_o (by exact OpR_callF en27 rfl (rows_v hF2 ((hs.row av (sA ++ rw_).length cv).wr huT))) rfl rfl ?_; rintro _ _ ⟨Rg, ax, cx, cellx, rfl, hf⟩; have hs := hs.fresh hf; (try simp only [List.cons_append, List.nil_append] at hs)))
      | ((apply al_callg 27; refine JL_o_on rfl (by first | assumption | rfl | exact decide_eq_true (by first | assumption | omega) | exact decide_eq_false (by first | assumption | omega)) (by exact OpR_callF en27 rfl (rows_v hF2 ((hs.row av (sA ++ rw_).length cv).wr huT))) rfl rfl ?_; rintro _ _ ⟨Rg, ax, cx, cellx, rfl, hf⟩; have hs := hs.fresh hf; (try simp only [List.cons_append, List.nil_append] at hs)))
      | ((apply ax_c; apply JX_cF 27; exact rfl; (intro W X hN hs; exact OpR_callF en27 rfl (rows_v hF2 ((hs.row av (sA ++ rw_).length cv).wr huT))); (rintro _ _ _ _ ⟨Rg, ax, cx, cellx, rfl, hf⟩; first | exact hE | exact Fresh.ext hf); rintro W X _ _ hN hs ⟨Rg, ax, cx, cellx, rfl, hf⟩; have hs := hs.fresh hf; (try simp only [List.cons_append, List.nil_append] at hs); refine JX.at hs ?_))
      | ((apply ax_c; apply JX_cFg 27; exact rfl; exact rfl; exact (by first | assumption | rfl | exact decide_eq_true (by first | assumption | omega) | exact decide_eq_false (by first | assumption | omega)); (intro W X hN hs; exact OpR_callF en27 rfl (rows_v hF2 ((hs.row av (sA ++ rw_).length cv).wr huT))); (rintro _ _ _ _ ⟨Rg, ax, cx, cellx, rfl, hf⟩; first | exact hE | exact Fresh.ext hf); rintro W X _ _ hN hs ⟨Rg, ax, cx, cellx, rfl, hf⟩; have hs := hs.fresh hf; (try simp only [List.cons_append, List.nil_append] at hs); refine JX.at hs ?_))
      | ((apply al_call 27; refine JL_o (by exact OpR_callF en27 rfl (rows_v hF1 ((hs.row ac ca.length cc).wr huA))) rfl rfl ?_; rintro _ _ ⟨Rh, ay, cy, celly, rfl, hf⟩; have hs := hs.fresh hf; (try simp only [List.cons_append, List.nil_append] at hs)))
      | ((apply al_callg 27; refine JL_o_on rfl (by first | assumption | rfl | exact decide_eq_true (by first | assumption | omega) | exact decide_eq_false (by first | assumption | omega)) (by exact OpR_callF en27 rfl (rows_v hF1 ((hs.row ac ca.length cc).wr huA))) rfl rfl ?_; rintro _ _ ⟨Rh, ay, cy, celly, rfl, hf⟩; have hs := hs.fresh hf; (try simp only [List.cons_append, List.nil_append] at hs)))
      | ((apply ax_c; apply JX_cF 27; exact rfl; (intro W X hN hs; exact OpR_callF en27 rfl (rows_v hF1 ((hs.row ac ca.length cc).wr huA))); (rintro _ _ _ _ ⟨Rh, ay, cy, celly, rfl, hf⟩; first | exact hE | exact Fresh.ext hf); rintro W X _ _ hN hs ⟨Rh, ay, cy, celly, rfl, hf⟩; have hs := hs.fresh hf; (try simp only [List.cons_append, List.nil_append] at hs); refine JX.at hs ?_))
      | ((apply ax_c; apply JX_cFg 27; exact rfl; exact rfl; exact (by first | assumption | rfl | exact decide_eq_true (by first | assumption | omega) | exact decide_eq_false (by first | assumption | omega)); (intro W X hN hs; exact OpR_callF en27 rfl (rows_v hF1 ((hs.row ac ca.length cc).wr huA))); (rintro _ _ _ _ ⟨Rh, ay, cy, celly, rfl, hf⟩; first | exact hE | exact Fresh.ext hf); rintro W X _ _ hN hs ⟨Rh, ay, cy, celly, rfl, hf⟩; have hs := hs.fresh hf; (try simp only [List.cons_append, List.nil_append] at hs); refine JX.at hs ?_))
      | ((apply al_call 32; refine JL_o (by exact OpR_callF en32 rfl (sorted_s hs ax rT.length cx (by omega))) rfl rfl ?_; rintro _ _ ⟨zs, hz1, hz2, az, cz, rfl, hf⟩; have hs := hs.fresh hf; (try simp only [List.cons_append, List.nil_append] at hs)))
      | ((apply al_callg 32; refine JL_o_on rfl (by first | assumption | rfl | exact decide_eq_true (by first | assumption | omega) | exact decide_eq_false (by first | assumption | omega)) (by exact OpR_callF en32 rfl (sorted_s hs ax rT.length cx (by omega))) rfl rfl ?_; rintro _ _ ⟨zs, hz1, hz2, az, cz, rfl, hf⟩; have hs := hs.fresh hf; (try simp only [List.cons_append, List.nil_append] at hs)))
      | ((apply ax_c; apply JX_cF 32; exact rfl; (intro W X hN hs; exact OpR_callF en32 rfl (sorted_s hs ax rT.length cx (by omega))); (rintro _ _ _ _ ⟨zs, hz1, hz2, az, cz, rfl, hf⟩; first | exact hE | exact Fresh.ext hf); rintro W X _ _ hN hs ⟨zs, hz1, hz2, az, cz, rfl, hf⟩; have hs := hs.fresh hf; (try simp only [List.cons_append, List.nil_append] at hs); refine JX.at hs ?_))
      | ((apply ax_c; apply JX_cFg 32; exact rfl; exact rfl; exact (by first | assumption | rfl | exact decide_eq_true (by first | assumption | omega) | exact decide_eq_false (by first | assumption | omega)); (intro W X hN hs; exact OpR_callF en32 rfl (sorted_s hs ax rT.length cx (by omega))); (rintro _ _ _ _ ⟨zs, hz1, hz2, az, cz, rfl, hf⟩; first | exact hE | exact Fresh.ext hf); rintro W X _ _ hN hs ⟨zs, hz1, hz2, az, cz, rfl, hf⟩; have hs := hs.fresh hf; (try simp only [List.cons_append, List.nil_append] at hs); refine JX.at hs ?_))
      | ((apply al_call 32; refine JL_o (by exact OpR_callF en32 rfl (sorted_s hs ay rA.length cy (by omega))) rfl rfl ?_; rintro _ _ ⟨ys, hy1, hy2, ap, cp, rfl, hf⟩; have hs := hs.fresh hf; (try simp only [List.cons_append, List.nil_append] at hs)))
      | ((apply al_callg 32; refine JL_o_on rfl (by first | assumption | rfl | exact decide_eq_true (by first | assumption | omega) | exact decide_eq_false (by first | assumption | omega)) (by exact OpR_callF en32 rfl (sorted_s hs ay rA.length cy (by omega))) rfl rfl ?_; rintro _ _ ⟨ys, hy1, hy2, ap, cp, rfl, hf⟩; have hs := hs.fresh hf; (try simp only [List.cons_append, List.nil_append] at hs)))
      | ((apply ax_c; apply JX_cF 32; exact rfl; (intro W X hN hs; exact OpR_callF en32 rfl (sorted_s hs ay rA.length cy (by omega))); (rintro _ _ _ _ ⟨ys, hy1, hy2, ap, cp, rfl, hf⟩; first | exact hE | exact Fresh.ext hf); rintro W X _ _ hN hs ⟨ys, hy1, hy2, ap, cp, rfl, hf⟩; have hs := hs.fresh hf; (try simp only [List.cons_append, List.nil_append] at hs); refine JX.at hs ?_))
      | ((apply ax_c; apply JX_cFg 32; exact rfl; exact rfl; exact (by first | assumption | rfl | exact decide_eq_true (by first | assumption | omega) | exact decide_eq_false (by first | assumption | omega)); (intro W X hN hs; exact OpR_callF en32 rfl (sorted_s hs ay rA.length cy (by omega))); (rintro _ _ _ _ ⟨ys, hy1, hy2, ap, cp, rfl, hf⟩; first | exact hE | exact Fresh.ext hf); rintro W X _ _ hN hs ⟨ys, hy1, hy2, ap, cp, rfl, hf⟩; have hs := hs.fresh hf; (try simp only [List.cons_append, List.nil_append] at hs); refine JX.at hs ?_))
      | ((apply al_call 30; refine JL_o (by exact OpR_callF en30 rfl (equalFunc_t _ _ _ _ _ _ _ (zs.map Prod.snd) (ys.map Prod.snd) ((RowV.slD (hs.row az rT.length cz) ((hs.dats cellx).all.of_perm hz1) rfl).weak (fun _ _ => trivial)) ((RowV.slD (hs.row ap rA.length cp) ((hs.dats celly).all.of_perm hy1) rfl).weak (fun _ _ => trivial)) (sorted_uniq (((zip_snd hz1 (hs.dats cellx).1).trans hperm).trans (zip_snd hy1 (hs.dats celly).1).symm) hz2 hy2))) rfl rfl ?_; rintro _ _ ⟨rfl, hE⟩; have hs := hs.ext hE; (try simp only [List.cons_append, List.nil_append] at hs)))
      | ((apply al_callg 30; refine JL_o_on rfl (by first | assumption | rfl | exact decide_eq_true (by first | assumption | omega) | exact decide_eq_false (by first | assumption | omega)) (by exact OpR_callF en30 rfl (equalFunc_t _ _ _ _ _ _ _ (zs.map Prod.snd) (ys.map Prod.snd) ((RowV.slD (hs.row az rT.length cz) ((hs.dats cellx).all.of_perm hz1) rfl).weak (fun _ _ => trivial)) ((RowV.slD (hs.row ap rA.length cp) ((hs.dats celly).all.of_perm hy1) rfl).weak (fun _ _ => trivial)) (sorted_uniq (((zip_snd hz1 (hs.dats cellx).1).trans hperm).trans (zip_snd hy1 (hs.dats celly).1).symm) hz2 hy2))) rfl rfl ?_; rintro _ _ ⟨rfl, hE⟩; have hs := hs.ext hE; (try simp only [List.cons_append, List.nil_append] at hs)))
      | ((apply ax_c; apply JX_cF 30; exact rfl; (intro W X hN hs; exact OpR_callF en30 rfl (equalFunc_t _ _ _ _ _ _ _ (zs.map Prod.snd) (ys.map Prod.snd) ((RowV.slD (hs.row az rT.length cz) ((hs.dats cellx).all.of_perm hz1) rfl).weak (fun _ _ => trivial)) ((RowV.slD (hs.row ap rA.length cp) ((hs.dats celly).all.of_perm hy1) rfl).weak (fun _ _ => trivial)) (sorted_uniq (((zip_snd hz1 (hs.dats cellx).1).trans hperm).trans (zip_snd hy1 (hs.dats celly).1).symm) hz2 hy2))); (rintro _ _ _ _ ⟨rfl, hE⟩; first | exact hE | exact Fresh.ext hf); rintro W X _ _ hN hs ⟨rfl, hE⟩; have hs := hs.ext hE; (try simp only [List.cons_append, List.nil_append] at hs); refine JX.at hs ?_))
      | ((apply ax_c; apply JX_cFg 30; exact rfl; exact rfl; exact (by first | assumption | rfl | exact decide_eq_true (by first | assumption | omega) | exact decide_eq_false (by first | assumption | omega)); (intro W X hN hs; exact OpR_callF en30 rfl (equalFunc_t _ _ _ _ _ _ _ (zs.map Prod.snd) (ys.map Prod.snd) ((RowV.slD (hs.row az rT.length cz) ((hs.dats cellx).all.of_perm hz1) rfl).weak (fun _ _ => trivial)) ((RowV.slD (hs.row ap rA.length cp) ((hs.dats celly).all.of_perm hy1) rfl).weak (fun _ _ => trivial)) (sorted_uniq (((zip_snd hz1 (hs.dats cellx).1).trans hperm).trans (zip_snd hy1 (hs.dats celly).1).symm) hz2 hy2))); (rintro _ _ _ _ ⟨rfl, hE⟩; first | exact hE | exact Fresh.ext hf); rintro W X _ _ hN hs ⟨rfl, hE⟩; have hs := hs.ext hE; (try simp only [List.cons_append, List.nil_append] at hs); refine JX.at hs ?_))
      | (apply JL_nil)
      | ((first | (apply JL_pure) | (apply JL_pure_on; exact rfl; (first | assumption | exact rfl | exact decide_eq_true (by first | assumption | omega) | exact decide_eq_false (by first | assumption | omega))) | (apply JX_f; exact rfl; intro W X hs) | (apply JX_fz; exact rfl; intro W hs) | (apply JX_f_on; exact rfl; exact rfl; (first | assumption | exact rfl | exact decide_eq_true (by first | assumption | omega) | exact decide_eq_false (by first | assumption | omega)); intro W X hs)); (first
      | (apply as_move; first | exact OpR_move rfl is_rfl)
      | (apply as_assign; first | exact OpR_assign rfl is_rfl)
      | (apply as_fieldAddr; first | exact OpR_fieldAddr0 rfl rfl is_rfl | exact OpR_fieldAddr rfl rfl is_rfl)
      | (apply as_load; first | exact OpR_load' hs rfl rfl is_rfl | exact OpR_load_agg' hs rfl is_rfl)
      | (apply as_add; first | exact OpR_addn rfl rfl (by omega) (by first | (simp only [Int.reduceAdd]; exact rfl) | exact rfl) is_rfl | exact OpR_ibin rfl rfl rfl is_rfl)
      | (apply as_sub; first | exact OpR_sub rfl rfl (by omega) is_rfl | exact OpR_ibin rfl rfl rfl is_rfl)
      | (apply as_binOp; first | exact OpR_ibin rfl rfl rfl is_rfl | exact OpR_beq rfl rfl is_rfl | exact OpR_bne rfl rfl is_rfl | exact OpR_eqNil rfl rfl is_rfl | exact OpR_neNil rfl rfl is_rfl)
      | (apply as_unOp; first | exact OpR_not rfl is_rfl)
      | (apply as_pick; first | exact OpR_pick_t rfl (by first | assumption | rfl | exact decide_eq_true (by first | assumption | omega) | exact decide_eq_false (by first | assumption | omega)) rfl is_rfl | exact OpR_pick_f rfl (by first | assumption | rfl | exact decide_eq_true (by first | assumption | omega) | exact decide_eq_false (by first | assumption | omega)) rfl is_rfl)
      | (apply as_extract; first | exact OpR_extract rfl rfl is_rfl)); first | (exact rfl; exact rfl) | exact rfl)
      | (apply J_seq)
      | (apply J_region)
      | (apply J_skip)
      | (apply al_none (t := 3); refine JL_o (by apply as_box; exact OpR_box' hs rfl) rfl rfl ?_; rintro _ _ ⟨b3, rfl, hb3, hs, hE⟩)
      | (apply ax_n; refine JX_n (t := 3) rfl (fun W L hs => by apply as_box; exact OpR_box' hs rfl) rfl ?_)
      | (apply ax_k; (first | refine JX_k (t := 3) ?_ | refine JX_k2 (t := 3) rfl ?_); intro b3)
      | (apply al_none (t := 4); refine JL_o (by apply as_box; exact OpR_box' hs rfl) rfl rfl ?_; rintro _ _ ⟨b4, rfl, hb4, hs, hE⟩)
      | (apply ax_n; refine JX_n (t := 4) rfl (fun W L hs => by apply as_box; exact OpR_box' hs rfl) rfl ?_)
      | (apply ax_k; (first | refine JX_k (t := 4) ?_ | refine JX_k2 (t := 4) rfl ?_); intro b4)
      | (apply al_none (t := 7); refine JL_o (by apply as_alloc; exact OpR_alloc' hs) rfl rfl ?_; rintro _ _ ⟨b7, rfl, hb7, hs, hE⟩)
      | (apply ax_n; refine JX_n (t := 7) rfl (fun W L hs => by apply as_alloc; exact OpR_alloc' hs) rfl ?_)
      | (apply ax_k; (first | refine JX_k (t := 7) ?_ | refine JX_k2 (t := 7) rfl ?_); intro b7)
      | (apply al_none (t := 8); refine JL_o (by apply as_alloc; exact OpR_alloc' hs) rfl rfl ?_; rintro _ _ ⟨b8, rfl, hb8, hs, hE⟩)
      | (apply ax_n; refine JX_n (t := 8) rfl (fun W L hs => by apply as_alloc; exact OpR_alloc' hs) rfl ?_)
      | (apply ax_k; (first | refine JX_k (t := 8) ?_ | refine JX_k2 (t := 8) rfl ?_); intro b8)
      | (apply al_none (t := 9); refine JL_o (by apply as_alloc; exact OpR_alloc' hs) rfl rfl ?_; rintro _ _ ⟨b9, rfl, hb9, hs, hE⟩)
      | (apply ax_n; refine JX_n (t := 9) rfl (fun W L hs => by apply as_alloc; exact OpR_alloc' hs) rfl ?_)
      | (apply ax_k; (first | refine JX_k (t := 9) ?_ | refine JX_k2 (t := 9) rfl ?_); intro b9)
      | (apply al_none (t := 10); refine JL_o (by apply as_alloc; exact OpR_alloc' hs) rfl rfl ?_; rintro _ _ ⟨b10, rfl, hb10, hs, hE⟩)
      | (apply ax_n; refine JX_n (t := 10) rfl (fun W L hs => by apply as_alloc; exact OpR_alloc' hs) rfl ?_)
      | (apply ax_k; (first | refine JX_k (t := 10) ?_ | refine JX_k2 (t := 10) rfl ?_); intro b10)
      | (apply al_unit; refine JL_u (by apply as_store; exact OpR_store' hs rfl rfl rfl) rfl ?_; rintro _ _ ⟨hs, hF⟩)
      | (apply al_guard; first
    | (refine JL_no rfl (by first | assumption | rfl | exact decide_eq_true (by first | assumption | omega) | exact decide_eq_false (by first | assumption | omega)) rfl ?_)
    | (fail_if_success (apply JL_o_on rfl (by first | assumption | rfl | exact decide_eq_true (by first | assumption | omega) | exact decide_eq_false (by first | assumption | omega)))); first | (refine JL_split_dec rfl (fun _ => ?_) (fun _ => ?_)) | (refine JL_split rfl (fun _ => ?_) (fun _ => ?_)))
      | (apply aj_cond; first | refine J_dec_t rfl (by first | assumption | omega) ?_ | refine J_dec_f rfl (by first | assumption | omega) ?_ | refine J_cond_t rfl (by first | assumption | rfl | exact decide_eq_true (by first | assumption | omega) | exact decide_eq_false (by first | assumption | omega)) ?_ | refine J_cond_f rfl (by first | assumption | rfl | exact decide_eq_true (by first | assumption | omega) | exact decide_eq_false (by first | assumption | omega)) ?_ | (refine J_cond_dec rfl (fun _ => ?_) (fun _ => ?_)) | (refine J_cond rfl (fun _ => ?_) (fun _ => ?_)))
      | (apply aj_draw; first
    | (refine J_drawX (id := 3) [0, 1, 0, 7, 0, 0, 63, 127] [(0, 0), (2, 0), (4, 2), (5, 2), (1, 1), (3, 1), (4, 3), (5, 3)] [6, 7] hs mixed (by kernel_rfl) (by kernel_rfl) (by kernel_rfl) (by kernel_rfl) (by kernel_rfl) ?_)
    | (refine J_drawX (id := 12) [0, 1, 3, 7, 7, 31, 63, 127, 255, 511, 1023, 255, 4095, 8191, 16383, 32767, 65535] [(0, 0), (1, 0), (2, 0), (3, 0), (4, 0), (5, 1), (6, 0), (7, 0), (8, 0), (11, 0), (9, 1), (10, 1), (12, 1), (13, 1), (14, 1), (15, 0), (16, 0)] [] hs mixed (by kernel_rfl) (by kernel_rfl) (by kernel_rfl) (by kernel_rfl) (by kernel_rfl) ?_))
      | (refine JX_done (fun W hs => ?_))
      | (refine JX_f_off rfl rfl (by first | assumption | rfl | exact decide_eq_true (by first | assumption | omega) | exact decide_eq_false (by first | assumption | omega)) rfl ?_)
      | (refine JX_c_off rfl rfl (by first | assumption | rfl | exact decide_eq_true (by first | assumption | omega) | exact decide_eq_false (by first | assumption | omega)) rfl ?_)
      | (refine JX_split_dec rfl rfl (fun hq => ?_) (fun hq => ?_); (fail_if_success (exact absurd (by clear hq; first | assumption | omega) (not_not_intro hq))); rotate_left; (fail_if_success (exact absurd (by clear hq; first | assumption | omega) hq)); rotate_left)
      | (refine JX_split rfl rfl (fun hq => ?_) (fun hq => ?_); (fail_if_success (exact bool_contra hq (by clear hq; exact (by first | assumption | rfl | exact decide_eq_true (by first | assumption | omega) | exact decide_eq_false (by first | assumption | omega))))); rotate_left; (fail_if_success (exact bool_contra (by clear hq; exact (by first | assumption | rfl | exact decide_eq_true (by first | assumption | omega) | exact decide_eq_false (by first | assumption | omega))) hq)); rotate_left)
      | (apply JD_done)
      | (apply JD_tail; case' hos => (simp only [List.map_cons, List.map_nil, List.getElem?_toArray, List.getElem?_cons_succ, List.getElem?_cons_zero]; repeat' (first | exact ms_nil | apply ms_cons)))
      | (refine JD_f_off rfl rfl (by first | assumption | rfl | exact decide_eq_true (by first | assumption | omega) | exact decide_eq_false (by first | assumption | omega)) rfl ?_)
      | (refine JD_c_off rfl rfl (by first | assumption | rfl | exact decide_eq_true (by first | assumption | omega) | exact decide_eq_false (by first | assumption | omega)) rfl ?_)
      | (refine JD_split_dec rfl rfl (fun _ => ?_) (fun _ => ?_))
      | (refine JD_split rfl rfl (fun _ => ?_) (fun _ => ?_)))
    all_goals refine J_leave Try.func8 rfl (.tmp rfl .nil) ⟨rfl, hs.frm.ext⟩
  · obtain ⟨no, hno, hm⟩ : ∃ no, no ≠ 0 ∧ moveM W1 R1 W2 R2 r ca cb = ((0, 0, []), (0, 0, []), no) := by
      unfold moveM
      split
      · split
        · split
          · rename_i x y z; exact (hok ⟨⟨x, y⟩, z⟩).elim
          · exact ⟨2, by omega, rfl⟩
        · exact ⟨180, by omega, rfl⟩
      · exact ⟨180, by omega, rfl⟩
    have hsq : ∀ W R n, (!smallB W R n) = false → colB W R n = true → R ≤ 200 := fun W R n h h2 => by simp [smallB, h2] at h; exact h
    repeat' (first
      | ((apply al_call 9; refine JL_o (by exact OpR_callF en9 rfl (wakes_r _)) rfl rfl ?_; rintro _ _ ⟨hE, rfl⟩; have hs := hs.ext hE; (try simp only [List.cons_append, List.nil_append] at hs)))
      | ((apply al_callg 9; refine JL_o_on rfl (by first | assumption | rfl | exact decide_eq_true (by first | assumption | omega) | exact decide_eq_false (by first | assumption | omega)) (by exact OpR_callF en9 rfl (wakes_r _)) rfl rfl ?_; rintro _ _ ⟨hE, rfl⟩; have hs := hs.ext hE; (try simp only [List.cons_append, List.nil_append] at hs)))
      | ((apply ax_c; apply JX_cF 9; exact rfl; (intro W X hN hs; exact OpR_callF en9 rfl (wakes_r _)); (rintro _ _ _ _ ⟨hE, rfl⟩; first | exact hE | exact Fresh.ext hf); rintro W X _ _ hN hs ⟨hE, rfl⟩; have hs := hs.ext hE; (try simp only [List.cons_append, List.nil_append] at hs); refine JX.at hs ?_))
      | ((apply ax_c; apply JX_cFg 9; exact rfl; exact rfl; exact (by first | assumption | rfl | exact decide_eq_true (by first | assumption | omega) | exact decide_eq_false (by first | assumption | omega)); (intro W X hN hs; exact OpR_callF en9 rfl (wakes_r _)); (rintro _ _ _ _ ⟨hE, rfl⟩; first | exact hE | exact Fresh.ext hf); rintro W X _ _ hN hs ⟨hE, rfl⟩; have hs := hs.ext hE; (try simp only [List.cons_append, List.nil_append] at hs); refine JX.at hs ?_))
      | ((apply al_call 10; refine JL_o (by exact OpR_callF en10 rfl (own_r _ W1 R1 a1 n1 c1 ws1 (h1.st hs))) rfl rfl ?_; rintro _ _ ⟨ac, cc, rfl, hf⟩; rw [← hca] at hf ⊢; have hs := hs.fresh hf; (try simp only [List.cons_append, List.nil_append] at hs)))
      | ((apply al_callg 10; refine JL_o_on rfl (by first | assumption | rfl | exact decide_eq_true (by first | assumption | omega) | exact decide_eq_false (by first | assumption | omega)) (by exact OpR_callF en10 rfl (own_r _ W1 R1 a1 n1 c1 ws1 (h1.st hs))) rfl rfl ?_; rintro _ _ ⟨ac, cc, rfl, hf⟩; rw [← hca] at hf ⊢; have hs := hs.fresh hf; (try simp only [List.cons_append, List.nil_append] at hs)))
      | ((apply ax_c; apply JX_cF 10; exact rfl; (intro W X hN hs; exact OpR_callF en10 rfl (own_r _ W1 R1 a1 n1 c1 ws1 (h1.st hs))); (rintro _ _ _ _ ⟨ac, cc, rfl, hf⟩; first | exact hE | exact Fresh.ext hf); rintro W X _ _ hN hs ⟨ac, cc, rfl, hf⟩; rw [← hca] at hf ⊢; have hs := hs.fresh hf; (try simp only [List.cons_append, List.nil_append] at hs); refine JX.at hs ?_))
      | ((apply ax_c; apply JX_cFg 10; exact rfl; exact rfl; exact (by first | assumption | rfl | exact decide_eq_true (by first | assumption | omega) | exact decide_eq_false (by first | assumption | omega)); (intro W X hN hs; exact OpR_callF en10 rfl (own_r _ W1 R1 a1 n1 c1 ws1 (h1.st hs))); (rintro _ _ _ _ ⟨ac, cc, rfl, hf⟩; first | exact hE | exact Fresh.ext hf); rintro W X _ _ hN hs ⟨ac, cc, rfl, hf⟩; rw [← hca] at hf ⊢; have hs := hs.fresh hf; (try simp only [List.cons_append, List.nil_append] at hs); refine JX.at hs ?_))
      | ((apply al_call 10; refine JL_o (by exact OpR_callF en10 rfl (own_r _ W2 R2 a2 n2 c2 ws2 (h2.st hs))) rfl rfl ?_; rintro _ _ ⟨ab, cbc, rfl, hf⟩; rw [← hcb] at hf ⊢; have hs := hs.fresh hf; (try simp only [List.cons_append, List.nil_append] at hs)))
      | ((apply al_callg 10; refine JL_o_on rfl (by first | assumption | rfl | exact decide_eq_true (by first | assumption | omega) | exact decide_eq_false (by first | assumption | omega)) (by exact OpR_callF en10 rfl (own_r _ W2 R2 a2 n2 c2 ws2 (h2.st hs))) rfl rfl ?_; rintro _ _ ⟨ab, cbc, rfl, hf⟩; rw [← hcb] at hf ⊢; have hs := hs.fresh hf; (try simp only [List.cons_append, List.nil_append] at hs)))
      | ((apply ax_c; apply JX_cF 10; exact rfl; (intro W X hN hs; exact OpR_callF en10 rfl (own_r _ W2 R2 a2 n2 c2 ws2 (h2.st hs))); (rintro _ _ _ _ ⟨ab, cbc, rfl, hf⟩; first | exact hE | exact Fresh.ext hf); rintro W X _ _ hN hs ⟨ab, cbc, rfl, hf⟩; rw [← hcb] at hf ⊢; have hs := hs.fresh hf; (try simp only [List.cons_append, List.nil_append] at hs); refine JX.at hs ?_))
      | ((apply ax_c; apply JX_cFg 10; exact rfl; exact rfl; exact (by first | assumption | rfl | exact decide_eq_true (by first | assumption | omega) | exact decide_eq_false (by first | assumption | omega)); (intro W X hN hs; exact OpR_callF en10 rfl (own_r _ W2 R2 a2 n2 c2 ws2 (h2.st hs))); (rintro _ _ _ _ ⟨ab, cbc, rfl, hf⟩; first | exact hE | exact Fresh.ext hf); rintro W X _ _ hN hs ⟨ab, cbc, rfl, hf⟩; rw [← hcb] at hf ⊢; have hs := hs.fresh hf; (try simp only [List.cons_append, List.nil_append] at hs); refine JX.at hs ?_))
      | ((apply al_call 12; refine JL_o (by exact OpR_callF en12 rfl (small_r _ W1 R1 ac ca.length cc)) rfl rfl ?_; rintro _ _ ⟨hE, rfl⟩; have hs := hs.ext hE; (try simp only [List.cons_append, List.nil_append] at hs)))
      | ((apply al_callg 12; refine JL_o_on rfl (by first | assumption | rfl | exact decide_eq_true (by first | assumption | omega) | exact decide_eq_false (by first | assumption | omega)) (by exact OpR_callF en12 rfl (small_r _ W1 R1 ac ca.length cc)) rfl rfl ?_; rintro _ _ ⟨hE, rfl⟩; have hs := hs.ext hE; (try simp only [List.cons_append, List.nil_append] at hs)))
      | ((apply ax_c; apply JX_cF 12; exact rfl; (intro W X hN hs; exact OpR_callF en12 rfl (small_r _ W1 R1 ac ca.length cc)); (rintro _ _ _ _ ⟨hE, rfl⟩; first | exact hE | exact Fresh.ext hf); rintro W X _ _ hN hs ⟨hE, rfl⟩; have hs := hs.ext hE; (try simp only [List.cons_append, List.nil_append] at hs); refine JX.at hs ?_))
      | ((apply ax_c; apply JX_cFg 12; exact rfl; exact rfl; exact (by first | assumption | rfl | exact decide_eq_true (by first | assumption | omega) | exact decide_eq_false (by first | assumption | omega)); (intro W X hN hs; exact OpR_callF en12 rfl (small_r _ W1 R1 ac ca.length cc)); (rintro _ _ _ _ ⟨hE, rfl⟩; first | exact hE | exact Fresh.ext hf); rintro W X _ _ hN hs ⟨hE, rfl⟩; have hs := hs.ext hE; (try simp only [List.cons_append, List.nil_append] at hs); refine JX.at hs ?_))
      | ((apply al_call 12; refine JL_o (by exact OpR_callF en12 rfl (small_r _ W2 R2 ab cb.length cbc)) rfl rfl ?_; rintro _ _ ⟨hE, rfl⟩; have hs := hs.ext hE; (try simp only [List.cons_append, List.nil_append] at hs)))
      | ((apply al_callg 12; refine JL_o_on rfl (by first | assumption | rfl | exact decide_eq_true (by first | assumption | omega) | exact decide_eq_false (by first | assumption | omega)) (by exact OpR_callF en12 rfl (small_r _ W2 R2 ab cb.length cbc)) rfl rfl ?_; rintro _ _ ⟨hE, rfl⟩; have hs := hs.ext hE; (try simp only [List.cons_append, List.nil_append] at hs)))
      | ((apply ax_c; apply JX_cF 12; exact rfl; (intro W X hN hs; exact OpR_callF en12 rfl (small_r _ W2 R2 ab cb.length cbc)); (rintro _ _ _ _ ⟨hE, rfl⟩; first | exact hE | exact Fresh.ext hf); rintro W X _ _ hN hs ⟨hE, rfl⟩; have hs := hs.ext hE; (try simp only [List.cons_append, List.nil_append] at hs); refine JX.at hs ?_))
      | ((apply ax_c; apply JX_cFg 12; exact rfl; exact rfl; exact (by first | assumption | rfl | exact decide_eq_true (by first | assumption | omega) | exact decide_eq_false (by first | assumption | omega)); (intro W X hN hs; exact OpR_callF en12 rfl (small_r _ W2 R2 ab cb.length cbc)); (rintro _ _ _ _ ⟨hE, rfl⟩; first | exact hE | exact Fresh.ext hf); rintro W X _ _ hN hs ⟨hE, rfl⟩; have hs := hs.ext hE; (try simp only [List.cons_append, List.nil_append] at hs); refine JX.at hs ?_))
      | ((apply al_call 25; refine JL_o (by exact OpR_callF en25 rfl (move_v hm ((hs.row ac ca.length cc).wr huA) ((hs.row ab cb.length cbc).wr huB) (fun h => by have := hsq _ _ _ (by assumption) h; omega))) rfl rfl ?_; rintro _ _ ⟨as_, cs_, at_, ct, rfl, hf⟩; have hs := hs.fresh hf; (try simp only [List.cons_append, List.nil_append] at hs)))
      | ((apply al_callg 25; refine JL_o_on rfl (by first | assumption | rfl | exact decide_eq_true (by first | assumption | omega) | exact decide_eq_false (by first | assumption | omega)) (by exact OpR_callF en25 rfl (move_v hm ((hs.row ac ca.length cc).wr huA) ((hs.row ab cb.length cbc).wr huB) (fun h => by have := hsq _ _ _ (by assumption) h; omega))) rfl rfl ?_; rintro _ _ ⟨as_, cs_, at_, ct, rfl, hf⟩; have hs := hs.fresh hf; (try simp only [List.cons_append, List.nil_append] at hs)))
      | ((apply ax_c; apply JX_cF 25; exact rfl; (intro W X hN hs; exact OpR_callF en25 rfl (move_v hm ((hs.row ac ca.length cc).wr huA) ((hs.row ab cb.length cbc).wr huB) (fun h => by have := hsq _ _ _ (by assumption) h; omega))); (rintro _ _ _ _ ⟨as_, cs_, at_, ct, rfl, hf⟩; first | exact hE | exact Fresh.ext hf); rintro W X _ _ hN hs ⟨as_, cs_, at_, ct, rfl, hf⟩; have hs := hs.fresh hf; (try simp only [List.cons_append, List.nil_append] at hs); refine JX.at hs ?_))
      | ((apply ax_c; apply JX_cFg 25; exact rfl; exact rfl; exact (by first | assumption | rfl | exact decide_eq_true (by first | assumption | omega) | exact decide_eq_false (by first | assumption | omega)); (intro W X hN hs; exact OpR_callF en25 rfl (move_v hm ((hs.row ac ca.length cc).wr huA) ((hs.row ab cb.length cbc).wr huB) (fun h => by have := hsq _ _ _ (by assumption) h; omega))); (rintro _ _ _ _ ⟨as_, cs_, at_, ct, rfl, hf⟩; first | exact hE | exact Fresh.ext hf); rintro W X _ _ hN hs ⟨as_, cs_, at_, ct, rfl, hf⟩; have hs := hs.fresh hf; (try simp only [List.cons_append, List.nil_append] at hs); refine JX.at hs ?_))
      | (apply JL_nil)
      | ((first | (apply JL_pure) | (apply JL_pure_on; exact rfl; (first | assumption | exact rfl | exact decide_eq_true (by first | assumption | omega) | exact decide_eq_false (by first | assumption | omega))) | (apply JX_f; exact rfl; intro W X hs) | (apply JX_fz; exact rfl; intro W hs) | (apply JX_f_on; exact rfl; exact rfl; (first | assumption | exact rfl | exact decide_eq_true (by first | assumption | omega) | exact decide_eq_false (by first | assumption | omega)); intro W X hs)); (first
      | (apply as_move; first | exact OpR_move rfl is_rfl)
      | (apply as_assign; first | exact OpR_assign rfl is_rfl)
      | (apply as_fieldAddr; first | exact OpR_fieldAddr0 rfl rfl is_rfl | exact OpR_fieldAddr rfl rfl is_rfl)
      | (apply as_load; first | exact OpR_load' hs rfl rfl is_rfl | exact OpR_load_agg' hs rfl is_rfl)
      | (apply as_add; first | exact OpR_addn rfl rfl (by omega) (by first | (simp only [Int.reduceAdd]; exact rfl) | exact rfl) is_rfl | exact OpR_ibin rfl rfl rfl is_rfl)
      | (apply as_sub; first | exact OpR_sub rfl rfl (by omega) is_rfl | exact OpR_ibin rfl rfl rfl is_rfl)
      | (apply as_binOp; first | exact OpR_ibin rfl rfl rfl is_rfl | exact OpR_beq rfl rfl is_rfl | exact OpR_bne rfl rfl is_rfl | exact OpR_eqNil rfl rfl is_rfl | exact OpR_neNil rfl rfl is_rfl)
      | (apply as_unOp; first | exact OpR_not rfl is_rfl)
      | (apply as_pick; first | exact OpR_pick_t rfl (by first | assumption | rfl | exact decide_eq_true (by first | assumption | omega) | exact decide_eq_false (by first | assumption | omega)) rfl is_rfl | exact OpR_pick_f rfl (by first | assumption | rfl | exact decide_eq_true (by first | assumption | omega) | exact decide_eq_false (by first | assumption | omega)) rfl is_rfl)
      | (apply as_extract; first | exact OpR_extract rfl rfl is_rfl)); first | (exact rfl; exact rfl) | exact rfl)
      | (apply J_seq)
      | (apply J_region)
      | (apply J_skip)
      | (apply al_none (t := 3); refine JL_o (by apply as_box; exact OpR_box' hs rfl) rfl rfl ?_; rintro _ _ ⟨b3, rfl, hb3, hs, hE⟩)
      | (apply ax_n; refine JX_n (t := 3) rfl (fun W L hs => by apply as_box; exact OpR_box' hs rfl) rfl ?_)
      | (apply ax_k; (first | refine JX_k (t := 3) ?_ | refine JX_k2 (t := 3) rfl ?_); intro b3)
      | (apply al_none (t := 4); refine JL_o (by apply as_box; exact OpR_box' hs rfl) rfl rfl ?_; rintro _ _ ⟨b4, rfl, hb4, hs, hE⟩)
      | (apply ax_n; refine JX_n (t := 4) rfl (fun W L hs => by apply as_box; exact OpR_box' hs rfl) rfl ?_)
      | (apply ax_k; (first | refine JX_k (t := 4) ?_ | refine JX_k2 (t := 4) rfl ?_); intro b4)
      | (apply al_none (t := 7); refine JL_o (by apply as_alloc; exact OpR_alloc' hs) rfl rfl ?_; rintro _ _ ⟨b7, rfl, hb7, hs, hE⟩)
      | (apply ax_n; refine JX_n (t := 7) rfl (fun W L hs => by apply as_alloc; exact OpR_alloc' hs) rfl ?_)
      | (apply ax_k; (first | refine JX_k (t := 7) ?_ | refine JX_k2 (t := 7) rfl ?_); intro b7)
      | (apply al_none (t := 8); refine JL_o (by apply as_alloc; exact OpR_alloc' hs) rfl rfl ?_; rintro _ _ ⟨b8, rfl, hb8, hs, hE⟩)
      | (apply ax_n; refine JX_n (t := 8) rfl (fun W L hs => by apply as_alloc; exact OpR_alloc' hs) rfl ?_)
      | (apply ax_k; (first | refine JX_k (t := 8) ?_ | refine JX_k2 (t := 8) rfl ?_); intro b8)
      | (apply al_none (t := 9); refine JL_o (by apply as_alloc; exact OpR_alloc' hs) rfl rfl ?_; rintro _ _ ⟨b9, rfl, hb9, hs, hE⟩)
      | (apply ax_n; refine JX_n (t := 9) rfl (fun W L hs => by apply as_alloc; exact OpR_alloc' hs) rfl ?_)
      | (apply ax_k; (first | refine JX_k (t := 9) ?_ | refine JX_k2 (t := 9) rfl ?_); intro b9)
      | (apply al_none (t := 10); refine JL_o (by apply as_alloc; exact OpR_alloc' hs) rfl rfl ?_; rintro _ _ ⟨b10, rfl, hb10, hs, hE⟩)
      | (apply ax_n; refine JX_n (t := 10) rfl (fun W L hs => by apply as_alloc; exact OpR_alloc' hs) rfl ?_)
      | (apply ax_k; (first | refine JX_k (t := 10) ?_ | refine JX_k2 (t := 10) rfl ?_); intro b10)
      | (apply al_unit; refine JL_u (by apply as_store; exact OpR_store' hs rfl rfl rfl) rfl ?_; rintro _ _ ⟨hs, hF⟩)
      | (apply al_guard; first
    | (refine JL_no rfl (by first | assumption | rfl | exact decide_eq_true (by first | assumption | omega) | exact decide_eq_false (by first | assumption | omega)) rfl ?_)
    | (fail_if_success (apply JL_o_on rfl (by first | assumption | rfl | exact decide_eq_true (by first | assumption | omega) | exact decide_eq_false (by first | assumption | omega)))); first | (refine JL_split_dec rfl (fun _ => ?_) (fun _ => ?_)) | (refine JL_split rfl (fun _ => ?_) (fun _ => ?_)))
      | (apply aj_cond; first | refine J_dec_t rfl (by first | assumption | omega) ?_ | refine J_dec_f rfl (by first | assumption | omega) ?_ | refine J_cond_t rfl (by first | assumption | rfl | exact decide_eq_true (by first | assumption | omega) | exact decide_eq_false (by first | assumption | omega)) ?_ | refine J_cond_f rfl (by first | assumption | rfl | exact decide_eq_true (by first | assumption | omega) | exact decide_eq_false (by first | assumption | omega)) ?_ | (refine J_cond_dec rfl (fun _ => ?_) (fun _ => ?_)) | (refine J_cond rfl (fun _ => ?_) (fun _ => ?_)))
      | (apply aj_draw; first
    | (refine J_drawX (id := 3) [0, 1, 0, 7, 0, 0, 63, 127] [(0, 0), (2, 0), (4, 2), (5, 2), (1, 1), (3, 1), (4, 3), (5, 3)] [6, 7] hs mixed (by kernel_rfl) (by kernel_rfl) (by kernel_rfl) (by kernel_rfl) (by kernel_rfl) ?_)
    | (refine J_drawX (id := 12) [0, 1, 3, 7, 7, 31, 63, 127, 255, 511, 1023, 255, 4095, 8191, 16383, 32767, 65535] [(0, 0), (1, 0), (2, 0), (3, 0), (4, 0), (5, 1), (6, 0), (7, 0), (8, 0), (11, 0), (9, 1), (10, 1), (12, 1), (13, 1), (14, 1), (15, 0), (16, 0)] [] hs mixed (by kernel_rfl) (by kernel_rfl) (by kernel_rfl) (by kernel_rfl) (by kernel_rfl) ?_))
      | (refine JX_done (fun W hs => ?_))
      | (refine JX_f_off rfl rfl (by first | assumption | rfl | exact decide_eq_true (by first | assumption | omega) | exact decide_eq_false (by first | assumption | omega)) rfl ?_)
      | (refine JX_c_off rfl rfl (by first | assumption | rfl | exact decide_eq_true (by first | assumption | omega) | exact decide_eq_false (by first | assumption | omega)) rfl ?_)
      | (refine JX_split_dec rfl rfl (fun hq => ?_) (fun hq => ?_); (fail_if_success (exact absurd (by clear hq; first | assumption | omega) (not_not_intro hq))); rotate_left; (fail_if_success (exact absurd (by clear hq; first | assumption | omega) hq)); rotate_left)
      | (refine JX_split rfl rfl (fun hq => ?_) (fun hq => ?_); (fail_if_success (exact bool_contra hq (by clear hq; exact (by first | assumption | rfl | exact decide_eq_true (by first | assumption | omega) | exact decide_eq_false (by first | assumption | omega))))); rotate_left; (fail_if_success (exact bool_contra (by clear hq; exact (by first | assumption | rfl | exact decide_eq_true (by first | assumption | omega) | exact decide_eq_false (by first | assumption | omega))) hq)); rotate_left)
      | (apply JD_done)
      | (apply JD_tail; case' hos => (simp only [List.map_cons, List.map_nil, List.getElem?_toArray, List.getElem?_cons_succ, List.getElem?_cons_zero]; repeat' (first | exact ms_nil | apply ms_cons)))
      | (refine JD_f_off rfl rfl (by first | assumption | rfl | exact decide_eq_true (by first | assumption | omega) | exact decide_eq_false (by first | assumption | omega)) rfl ?_)
      | (refine JD_c_off rfl rfl (by first | assumption | rfl | exact decide_eq_true (by first | assumption | omega) | exact decide_eq_false (by first | assumption | omega)) rfl ?_)
      | (refine JD_split_dec rfl rfl (fun _ => ?_) (fun _ => ?_))
      | (refine JD_split rfl rfl (fun _ => ?_) (fun _ => ?_)))
    all_goals refine J_leave Try.func8 rfl (.tmp rfl .nil) ⟨rfl, hs.frm.ext⟩
end Go.Eng
