/- Column: its rows, as an iterator, and gathered; EqualFunc. -/
import Derived.Test.YtkeejkengoolpaaC10
import Derived.Test.YtkeejkengoolpaaE16
namespace Go.Eng
open Go.Proofs
theorem blk_foot (b : Nat) (o : Obj) : (Blk b o).foot b := rfl
attribute [local irreducible] J JL JD JX JXat OpR OpG Ret RetV Is Blk Row
set_option maxRecDepth 100000
set_option maxHeartbeats 1000000
set_option linter.unusedSimpArgs false
set_option linter.unusedVariables false
/-- slices.EqualFunc over values, by slices.Equal. -/
theorem equalFunc_r (w : World) (a1 a2 : Option Addr) (n1 c1 n2 c2 : Nat) (xs ys : List (List Int)) (h1 : Sl (tSl (tInt .u64)) All w a1 n1 c1 xs) (h2 : Sl (tSl (tInt .u64)) All w a2 n2 c2 ys) :
    Ret Try.prog 30 #[.slice a1 n1 c1, .slice a2 n2 c2, .func (.func 19) #[] #[]] w fun v w' => v = .bool (decide (xs = ys)) ∧ Ext w w' := by
  refine Ret_of (l := [_, _, _]) Try.func30 rfl Try.ntmps30 (by simp) ?_
  have hs := St.init w
  have hl1 := h1.len
  have hl2 := h2.len
  have hc1 := h1.le
  have hm1 := h1.cap
  unfold maxLen at hm1
  by_cases hn : n1 = n2
  · subst hn
    repeat' (first
      | (apply JL_nil)
      | ((first | (apply JL_pure)); (first
      | (apply as_move; first | exact OpR_move rfl is_rfl)
      | (apply as_assign; first | exact OpR_assign rfl is_rfl)
      | (apply as_load; first | exact OpR_load' hs rfl rfl is_rfl | exact OpR_load_agg' hs rfl is_rfl)
      | (apply as_add; first | exact OpR_addn rfl rfl (by omega) (by first | (simp only [Int.reduceAdd]; exact rfl) | exact rfl) is_rfl | exact OpR_ibin rfl rfl rfl is_rfl)
      | (apply as_binOp; first | exact OpR_ibin rfl rfl rfl is_rfl | exact OpR_beq rfl rfl is_rfl | exact OpR_bne rfl rfl is_rfl | exact OpR_eqNil rfl rfl is_rfl | exact OpR_neNil rfl rfl is_rfl)
      | (apply as_unOp; first | exact OpR_not rfl is_rfl)
      | (apply as_b_len; first | exact OpR_len rfl is_rfl | exact OpR_len_str rfl is_rfl | exact OpR_len_arr rfl is_rfl)
      | (apply as_indexAddr; first | exact OpR_indexAddr rfl rfl (by omega) (by omega) is_rfl | exact OpR_indexAddr_arr' rfl rfl (by omega) (by omega) (by first | (simp only [Int.reduceToNat, Nat.reduceMul, Nat.reduceAdd]; exact rfl) | exact rfl) is_rfl)); first | (exact rfl; exact rfl) | exact rfl)
      | (apply J_seq)
      | (apply J_region)
      | (apply J_block)
      | (apply J_inBlock)
      | (apply aj_exit; refine J_exit rfl ?_)
      | (apply J_skip)
      | (apply aj_cond; first | refine J_dec_t rfl (by first | assumption | omega) ?_ | refine J_dec_f rfl (by first | assumption | omega) ?_ | refine J_cond_t rfl (by first | assumption | rfl | exact decide_eq_true (by first | assumption | omega) | exact decide_eq_false (by first | assumption | omega)) ?_ | refine J_cond_f rfl (by first | assumption | rfl | exact decide_eq_true (by first | assumption | omega) | exact decide_eq_false (by first | assumption | omega)) ?_ | (refine J_cond_dec rfl (fun _ => ?_) (fun _ => ?_)) | (refine J_cond rfl (fun _ => ?_) (fun _ => ?_))))
    refine J_loopK (α := Nat) [(1, _), (2, _), (15, _), (16, _)] (fun k => [(17, .int .i64 k)]) (fun k w' => St w NoF w' [] ∧ k ≤ n1 ∧ xs.take k = ys.take k) (fun k => n1 - k) 0 ⟨hs, by omega, by simp⟩ (by repeat' (first | exact trivial | exact rfl | apply And.intro)) ?_
    rintro k w' ⟨hs, hk, hj⟩ ih
    by_cases hlt : k < n1
    · obtain ⟨p1, o1, rfl⟩ := h1.sl.addr (by omega)
      obtain ⟨p2, o2, rfl⟩ := h2.sl.addr (by omega)
      have hx : xs[k]? = some xs[k] := List.getElem?_eq_getElem (by omega)
      have hy : ys[k]? = some ys[k] := List.getElem?_eq_getElem (by omega)
      obtain ⟨av, nv, cv, hv, hcell⟩ := VR.el h1.sl hx
      obtain ⟨au, nu, cu, hu, hcell2⟩ := VR.el h2.sl hy
      have hcell := hcell p1 o1 rfl
      have hcell2 := hcell2 p2 o2 rfl
      have e1 : xs.take (k + 1) = xs.take k ++ [xs[k]] := List.take_succ_eq_append_getElem (by omega)
      have e2 : ys.take (k + 1) = ys.take k ++ [ys[k]] := List.take_succ_eq_append_getElem (by omega)
      have hvm := hv.2.1
      have hvc := hv.1
      unfold maxLen at hvm
      repeat' (first
        | ((apply al_none; refine JL_o (OpR_callV rfl rfl (Ret.value (cap := #[]) en19 (equal19_r _ _ _ _ _ _ _ _ _ _ _ (hv.st hs).2.2.2 (hu.st hs).2.2.2 (by omega)))) rfl rfl ?_; rintro _ _ ⟨rfl, hE⟩; have hs := hs.ext hE))
        | (apply JL_nil)
        | ((first | (apply JL_pure)); (first
      | (apply as_load; first | exact OpR_load_cell (hs.old_cell hcell) rfl is_rfl | exact OpR_load_cell (hs.old_cell hcell2) rfl is_rfl)
      | (apply as_move; first | exact OpR_move rfl is_rfl)
      | (apply as_assign; first | exact OpR_assign rfl is_rfl)
      | (apply as_load; first | exact OpR_load' hs rfl rfl is_rfl | exact OpR_load_agg' hs rfl is_rfl)
      | (apply as_add; first | exact OpR_addn rfl rfl (by omega) (by first | (simp only [Int.reduceAdd]; exact rfl) | exact rfl) is_rfl | exact OpR_ibin rfl rfl rfl is_rfl)
      | (apply as_binOp; first | exact OpR_ibin rfl rfl rfl is_rfl | exact OpR_beq rfl rfl is_rfl | exact OpR_bne rfl rfl is_rfl | exact OpR_eqNil rfl rfl is_rfl | exact OpR_neNil rfl rfl is_rfl)
      | (apply as_unOp; first | exact OpR_not rfl is_rfl)
      | (apply as_b_len; first | exact OpR_len rfl is_rfl | exact OpR_len_str rfl is_rfl | exact OpR_len_arr rfl is_rfl)
      | (apply as_indexAddr; first | exact OpR_indexAddr rfl rfl (by omega) (by omega) is_rfl | exact OpR_indexAddr_arr' rfl rfl (by omega) (by omega) (by first | (simp only [Int.reduceToNat, Nat.reduceMul, Nat.reduceAdd]; exact rfl) | exact rfl) is_rfl)); first | (exact rfl; exact rfl) | exact rfl)
        | (apply J_seq)
        | (apply J_region)
        | (apply J_block)
        | (apply J_inBlock)
        | (apply aj_exit; refine J_exit rfl ?_)
        | (apply J_skip)
        | (apply aj_cond; first | refine J_dec_t rfl (by first | assumption | omega) ?_ | refine J_dec_f rfl (by first | assumption | omega) ?_ | refine J_cond_t rfl (by first | assumption | rfl | exact decide_eq_true (by first | assumption | omega) | exact decide_eq_false (by first | assumption | omega)) ?_ | refine J_cond_f rfl (by first | assumption | rfl | exact decide_eq_true (by first | assumption | omega) | exact decide_eq_false (by first | assumption | omega)) ?_ | (refine J_cond_dec rfl (fun _ => ?_) (fun _ => ?_)) | (refine J_cond rfl (fun _ => ?_) (fun _ => ?_))))
      · refine J_leave Try.func30 rfl (.tmp rfl .nil) ⟨?_, hs.frm.ext⟩
        rename_i hne
        simp only [mkRes]
        congr 1
        rw [eq_comm, decide_eq_false_iff_not]
        intro e
        subst e
        simp at hne
      · refine ih (k + 1) _ _ ⟨hs, by omega, ?_⟩ (by omega) (by repeat' (first | exact trivial | exact rfl | apply And.intro))
        rename_i hne
        rw [e1, e2, hj]
        simp at hne
        rw [hne]
    · rw [List.take_of_length_le (by omega), List.take_of_length_le (by omega)] at hj
      repeat' (first
        | (apply JL_nil)
        | ((first | (apply JL_pure)); (first
      | (apply as_move; first | exact OpR_move rfl is_rfl)
      | (apply as_assign; first | exact OpR_assign rfl is_rfl)
      | (apply as_load; first | exact OpR_load' hs rfl rfl is_rfl | exact OpR_load_agg' hs rfl is_rfl)
      | (apply as_add; first | exact OpR_addn rfl rfl (by omega) (by first | (simp only [Int.reduceAdd]; exact rfl) | exact rfl) is_rfl | exact OpR_ibin rfl rfl rfl is_rfl)
      | (apply as_binOp; first | exact OpR_ibin rfl rfl rfl is_rfl | exact OpR_beq rfl rfl is_rfl | exact OpR_bne rfl rfl is_rfl | exact OpR_eqNil rfl rfl is_rfl | exact OpR_neNil rfl rfl is_rfl)
      | (apply as_unOp; first | exact OpR_not rfl is_rfl)
      | (apply as_b_len; first | exact OpR_len rfl is_rfl | exact OpR_len_str rfl is_rfl | exact OpR_len_arr rfl is_rfl)
      | (apply as_indexAddr; first | exact OpR_indexAddr rfl rfl (by omega) (by omega) is_rfl | exact OpR_indexAddr_arr' rfl rfl (by omega) (by omega) (by first | (simp only [Int.reduceToNat, Nat.reduceMul, Nat.reduceAdd]; exact rfl) | exact rfl) is_rfl)); first | (exact rfl; exact rfl) | exact rfl)
        | (apply J_seq)
        | (apply J_region)
        | (apply J_block)
        | (apply J_inBlock)
        | (apply aj_exit; refine J_exit rfl ?_)
        | (apply J_skip)
        | (apply aj_cond; first | refine J_dec_t rfl (by first | assumption | omega) ?_ | refine J_dec_f rfl (by first | assumption | omega) ?_ | refine J_cond_t rfl (by first | assumption | rfl | exact decide_eq_true (by first | assumption | omega) | exact decide_eq_false (by first | assumption | omega)) ?_ | refine J_cond_f rfl (by first | assumption | rfl | exact decide_eq_true (by first | assumption | omega) | exact decide_eq_false (by first | assumption | omega)) ?_ | (refine J_cond_dec rfl (fun _ => ?_) (fun _ => ?_)) | (refine J_cond rfl (fun _ => ?_) (fun _ => ?_))))
      refine J_leave Try.func30 rfl (.tmp rfl .nil) ⟨?_, hs.frm.ext⟩
      rw [decide_eq_true hj]; rfl
  · repeat' (first
      | (apply JL_nil)
      | ((first | (apply JL_pure)); (first
      | (apply as_move; first | exact OpR_move rfl is_rfl)
      | (apply as_assign; first | exact OpR_assign rfl is_rfl)
      | (apply as_load; first | exact OpR_load' hs rfl rfl is_rfl | exact OpR_load_agg' hs rfl is_rfl)
      | (apply as_add; first | exact OpR_addn rfl rfl (by omega) (by first | (simp only [Int.reduceAdd]; exact rfl) | exact rfl) is_rfl | exact OpR_ibin rfl rfl rfl is_rfl)
      | (apply as_binOp; first | exact OpR_ibin rfl rfl rfl is_rfl | exact OpR_beq rfl rfl is_rfl | exact OpR_bne rfl rfl is_rfl | exact OpR_eqNil rfl rfl is_rfl | exact OpR_neNil rfl rfl is_rfl)
      | (apply as_unOp; first | exact OpR_not rfl is_rfl)
      | (apply as_b_len; first | exact OpR_len rfl is_rfl | exact OpR_len_str rfl is_rfl | exact OpR_len_arr rfl is_rfl)
      | (apply as_indexAddr; first | exact OpR_indexAddr rfl rfl (by omega) (by omega) is_rfl | exact OpR_indexAddr_arr' rfl rfl (by omega) (by omega) (by first | (simp only [Int.reduceToNat, Nat.reduceMul, Nat.reduceAdd]; exact rfl) | exact rfl) is_rfl)); first | (exact rfl; exact rfl) | exact rfl)
      | (apply J_seq)
      | (apply J_region)
      | (apply J_block)
      | (apply J_inBlock)
      | (apply aj_exit; refine J_exit rfl ?_)
      | (apply J_skip)
      | (apply aj_cond; first | refine J_dec_t rfl (by first | assumption | omega) ?_ | refine J_dec_f rfl (by first | assumption | omega) ?_ | refine J_cond_t rfl (by first | assumption | rfl | exact decide_eq_true (by first | assumption | omega) | exact decide_eq_false (by first | assumption | omega)) ?_ | refine J_cond_f rfl (by first | assumption | rfl | exact decide_eq_true (by first | assumption | omega) | exact decide_eq_false (by first | assumption | omega)) ?_ | (refine J_cond_dec rfl (fun _ => ?_) (fun _ => ?_)) | (refine J_cond rfl (fun _ => ?_) (fun _ => ?_))))
    refine J_leave Try.func30 rfl (.tmp rfl .nil) ⟨?_, hs.frm.ext⟩
    have : xs ≠ ys := by intro e; subst e; omega
    rw [decide_eq_false this]; rfl
theorem SlR.part {k : IntKind} {R : Nat → Prop} {w : World} {a a' : Option Addr} {n off m : Nat} {xs : List Int} (h : SlR (tInt k) R w a n xs) (hm : off + m ≤ n) (ha : a' = none → m = 0) (ha' : 0 < m → a' = a.map (·.add off)) : SlR (tInt k) R w a' m ((xs.drop off).take m) := by
  have hl := h.len
  refine ⟨by simp; omega, ha, fun hp => ?_, fun b o hb hp => ?_, fun i x hx => ?_⟩
  · rw [ha' hp]
    intro ad had
    obtain ⟨b, o, rfl⟩ := h.addr (by omega)
    simp only [Option.map_some, add_eq, Option.some.injEq] at had
    subst had; rfl
  · obtain ⟨b', o', rfl⟩ := h.addr (by omega)
    rw [ha' hp] at hb
    simp only [Option.map_some, add_eq, Option.some.injEq, Addr.mk.injEq] at hb
    obtain ⟨rfl, _⟩ := hb
    exact h.reg _ _ rfl (by omega)
  · rw [List.getElem?_take] at hx
    split at hx
    · rename_i him
      rw [List.getElem?_drop] at hx
      obtain ⟨es, hr, hc⟩ := h.el _ _ hx
      refine ⟨es, hr, fun b o hb j u hu => ?_⟩
      obtain ⟨b', o', rfl⟩ := h.addr (by omega)
      rw [ha' (by omega)] at hb
      simp only [Option.map_some, add_eq, Option.some.injEq, Addr.mk.injEq] at hb
      obtain ⟨rfl, rfl, _⟩ := hb
      have := hc _ _ rfl j u hu
      simp only [tInt, Nat.mul_one] at this ⊢
      rw [← this]; congr 2; omega
    · cases hx
theorem WR.part {w : World} {a a' : Option Addr} {n c off m c' : Nat} {ws : List Int} (h : WR w a n c ws) (hm : off + m ≤ n) (hc : m ≤ c') (hc2 : c' ≤ maxLen) (ha : a' = none → c' = 0) (ha' : 0 < m → a' = a.map (·.add off)) : WR w a' m c' ((ws.drop off).take m) :=
  ⟨hc, hc2, ha, h.2.2.2.part hm (fun e => by have := ha e; omega) ha'⟩
theorem SlR.foot {k : IntKind} {R : Nat → Prop} {w : World} {a : Option Addr} {n : Nat} {xs : List Int} (h : SlR (tInt k) R w a n xs) : SlR (tInt k) (fun k => afoot a k ∧ 0 < n) w a n xs :=
  ⟨h.len, h.nil, h.plain, fun b o hb hp => by subst hb; exact ⟨rfl, hp⟩, h.el⟩
theorem WR.keep {wr w : World} {a : Option Addr} {n c : Nat} {ws : List Int} (h : WR wr a n c ws) (hk : ∀ k, afoot a k ∧ 0 < n → k < wr.heap.size → w.heap[k]? = wr.heap[k]?) : WR w a n c ws :=
  ⟨h.1, h.2.1, h.2.2.1, (h.2.2.2.foot.loc' hk).all⟩
/-- What a row brings along. -/
def rowX (W : Int) (ws : List Int) (i : Nat) (vals : List Value) (cx : List HP) : Prop :=
  ∃ av cv, vals = [.slice av (rowOf W i ws).length cv] ∧ cx = [Row av (rowOf W i ws).length cv 41 1 (u64s (rowOf W i ws))]
theorem SlR.below {k : IntKind} {R : Nat → Prop} {w : World} {a : Option Addr} {n : Nat} {xs : List Int} (h : SlR (tInt k) R w a n xs) : ∀ j, afoot a j ∧ 0 < n → j < w.heap.size := by
  rintro j ⟨hj, hn⟩
  obtain ⟨b, o, rfl⟩ := h.addr hn
  have hl := h.len
  obtain ⟨es, hr, hc⟩ := h.el 0 xs[0] (List.getElem?_eq_getElem (by omega))
  have e1 := (tInt k).len hr
  obtain ⟨u, es, rfl⟩ : ∃ u es', es = u :: es' := by cases es with | nil => cases e1 | cons u r => exact ⟨u, r, rfl⟩
  have hb := World.block_lt_of_cell? w _ (hc b o rfl 0 u rfl)
  simp only [afoot, Option.map_some, Option.some.injEq] at hj
  subst hj
  exact hb
theorem rowsIt_ok (wr : World) (W R : Int) (b : Nat) (a : Option Addr) (n c e : Nat) (ws : List Int) (h : WR wr a n c ws) (hB : colB W R n = true) (hb : wr.heap[b]? = some (.cells #[.int .i64 W, .int .i64 R, .slice a n c] e (0, 0))) :
    IterV Try.prog (.func (.func 49) #[] #[ptr b]) R.toNat (rowX W ws) wr (fun k => k = b ∨ (afoot a k ∧ 0 < n)) := by
  intro y C Cs w c0 hy hK h0 hheld
  refine RetV.closure (avs := [_]) (cap := [_]) en49 ?_
  refine Ret_of (l := [_, _]) Try.func49 rfl Try.ntmps49 (by simp) ?_
  have hs := hheld.st
  have hl := h.len
  subst hl
  have hw := colB_W hB
  have hbw : w.heap[b]? = some (.cells #[.int .i64 W, .int .i64 R, .slice a ws.length c] e (0, 0)) := (hK b (.inl rfl)).1.trans hb
  have hbF : ¬ (Star c0).foot b := (hK b (.inl rfl)).2
  have hcell : ∀ j u, (#[.int .i64 W, .int .i64 R, .slice a ws.length c] : Array Value).toList[j]? = some u → w.cell? ⟨b, j, none⟩ = some u := fun j u hu => cell_blk hbw hu
  repeat' (first
    | (apply JL_nil)
    | ((first | (apply JL_pure)); (first
      | (apply as_load; exact OpR_load_cell (hs.keep_cell (hcell 1 _ rfl) hbF) rfl is_rfl)
      | (apply as_move; first | exact OpR_move rfl is_rfl)
      | (apply as_assign; first | exact OpR_assign rfl is_rfl)
      | (apply as_fieldAddr; first | exact OpR_fieldAddr0 rfl rfl is_rfl | exact OpR_fieldAddr rfl rfl is_rfl)
      | (apply as_load; first | exact OpR_load' hs rfl rfl is_rfl | exact OpR_load_agg' hs rfl is_rfl)
      | (apply as_add; first | exact OpR_addn rfl rfl (by omega) (by first | (simp only [Int.reduceAdd]; exact rfl) | exact rfl) is_rfl | exact OpR_ibin rfl rfl rfl is_rfl)
      | (apply as_binOp; first | exact OpR_ibin rfl rfl rfl is_rfl | exact OpR_beq rfl rfl is_rfl | exact OpR_bne rfl rfl is_rfl | exact OpR_eqNil rfl rfl is_rfl | exact OpR_neNil rfl rfl is_rfl)
      | (apply as_unOp; first | exact OpR_not rfl is_rfl)); first | (exact rfl; exact rfl) | exact rfl)
    | (apply J_seq)
    | (apply J_region)
    | (apply J_block)
    | (apply J_inBlock)
    | (apply aj_exit; refine J_exit rfl ?_)
    | (apply J_skip)
    | (apply al_none (t := 13); refine JL_o (by apply as_buildSlice; exact OpR_buildSlice hs rfl (by omega) rfl) rfl rfl ?_; rintro _ _ ⟨b13, rfl, hb13, hs, hE⟩)
    | (apply aj_cond; first | refine J_dec_t rfl (by first | assumption | omega) ?_ | refine J_dec_f rfl (by first | assumption | omega) ?_ | refine J_cond_t rfl (by first | assumption | rfl | exact decide_eq_true (by first | assumption | omega) | exact decide_eq_false (by first | assumption | omega)) ?_ | refine J_cond_f rfl (by first | assumption | rfl | exact decide_eq_true (by first | assumption | omega) | exact decide_eq_false (by first | assumption | omega)) ?_ | (refine J_cond_dec rfl (fun _ => ?_) (fun _ => ?_)) | (refine J_cond rfl (fun _ => ?_) (fun _ => ?_))))
  refine J_loopK (α := Nat × List HP) [(0, _), (1, _), (5, _)] (fun g => [(6, .int .i64 g.1)]) (fun g w' => St w (Star c0).foot w' g.2 ∧ C g.1 g.2 ∧ g.1 ≤ R.toNat) (fun g => R.toNat - g.1) (0, c0) ⟨hs, h0, by omega⟩ (by repeat' (first | exact trivial | exact rfl | apply And.intro)) ?_
  rintro ⟨k, ck⟩ w' ⟨hs, hC, hk⟩ ih
  dsimp only at hs hC hk ih ⊢
  have hrb := hs.keep hbw hbF
  by_cases hlt : k < R.toNat
  · have hbd := row_bd (r := k) hB (by omega)
    have hlr : (rowOf W k ws).length = W.toNat := by simp [rowOf]; omega
    have hfl : [rowOf W k ws].flatten = rowOf W k ws := by simp
    have hwr : ∀ w1 L, St w (Star c0).foot w1 L → WR w1 (if W = 0 then a else a.map (·.add (k * W).toNat)) W.toNat W.toNat (rowOf W k ws) := by
      intro w1 L hs1
      have h1 : WR w1 a ws.length c ws := h.keep (fun j hj hlt => by
        have h2 := hK j (.inr hj)
        rw [← h2.1]
        exact hs1.frm.old j (by
          have : wr.heap[j]? = some wr.heap[j] := Array.getElem?_eq_getElem hlt
          rw [← h2.1] at this
          exact (Array.getElem?_eq_some_iff.1 this).1) h2.2)
      refine h1.part (by omega) (Nat.le_refl _) (by unfold maxLen; omega) (fun e => ?_) (fun hp => ?_)
      · by_cases hW : W = 0
        · omega
        · rw [if_neg hW] at e
          cases a with
          | none => have := h.2.2.1 rfl; have := h.1; omega
          | some _ => cases e
      · rw [if_neg (by omega)]
    repeat' (first
      | ((apply al_call 35; refine JL_o (by exact OpR_callF en35 rfl (at_r _ W R k a ws.length c (by omega) (by omega) (by omega) (by omega) h.1)) rfl rfl ?_; rintro _ _ ⟨hE, rfl⟩; have hs := hs.ext hE; (try simp only [List.cons_append, List.nil_append] at hs)))
      | ((apply al_callg 35; refine JL_o_on rfl (by first | assumption | rfl | exact decide_eq_true (by first | assumption | omega) | exact decide_eq_false (by first | assumption | omega)) (by exact OpR_callF en35 rfl (at_r _ W R k a ws.length c (by omega) (by omega) (by omega) (by omega) h.1)) rfl rfl ?_; rintro _ _ ⟨hE, rfl⟩; have hs := hs.ext hE; (try simp only [List.cons_append, List.nil_append] at hs)))
      | ((apply ax_c; apply JX_cF 35; exact rfl; (intro W X hN hs; exact OpR_callF en35 rfl (at_r _ W R k a ws.length c (by omega) (by omega) (by omega) (by omega) h.1)); (rintro _ _ _ _ ⟨hE, rfl⟩; first | exact hE | exact Fresh.ext hf); rintro W X _ _ hN hs ⟨hE, rfl⟩; have hs := hs.ext hE; (try simp only [List.cons_append, List.nil_append] at hs); refine JX.at hs ?_))
      | ((apply ax_c; apply JX_cFg 35; exact rfl; exact rfl; exact (by first | assumption | rfl | exact decide_eq_true (by first | assumption | omega) | exact decide_eq_false (by first | assumption | omega)); (intro W X hN hs; exact OpR_callF en35 rfl (at_r _ W R k a ws.length c (by omega) (by omega) (by omega) (by omega) h.1)); (rintro _ _ _ _ ⟨hE, rfl⟩; first | exact hE | exact Fresh.ext hf); rintro W X _ _ hN hs ⟨hE, rfl⟩; have hs := hs.ext hE; (try simp only [List.cons_append, List.nil_append] at hs); refine JX.at hs ?_))
      | ((apply al_call 41; refine JL_o (by exact OpR_callF en41 rfl (joined_r _ _ _ _ [rowOf W k ws] All (slr_blk1 hs.blk (hwr _ _ hs).1 (hwr _ _ hs).2.1 (hwr _ _ hs).2.2.1 (hwr _ _ hs).2.2.2) (by omega) (by rw [hfl]; omega))) rfl rfl ?_; rintro _ _ ⟨aj, cj, rfl, hf⟩; rw [hfl] at hf ⊢; have hs := hs.fresh hf; (try simp only [List.cons_append, List.nil_append] at hs)))
      | ((apply al_callg 41; refine JL_o_on rfl (by first | assumption | rfl | exact decide_eq_true (by first | assumption | omega) | exact decide_eq_false (by first | assumption | omega)) (by exact OpR_callF en41 rfl (joined_r _ _ _ _ [rowOf W k ws] All (slr_blk1 hs.blk (hwr _ _ hs).1 (hwr _ _ hs).2.1 (hwr _ _ hs).2.2.1 (hwr _ _ hs).2.2.2) (by omega) (by rw [hfl]; omega))) rfl rfl ?_; rintro _ _ ⟨aj, cj, rfl, hf⟩; rw [hfl] at hf ⊢; have hs := hs.fresh hf; (try simp only [List.cons_append, List.nil_append] at hs)))
      | ((apply ax_c; apply JX_cF 41; exact rfl; (intro W X hN hs; exact OpR_callF en41 rfl (joined_r _ _ _ _ [rowOf W k ws] All (slr_blk1 hs.blk (hwr _ _ hs).1 (hwr _ _ hs).2.1 (hwr _ _ hs).2.2.1 (hwr _ _ hs).2.2.2) (by omega) (by rw [hfl]; omega))); (rintro _ _ _ _ ⟨aj, cj, rfl, hf⟩; first | exact hE | exact Fresh.ext hf); rintro W X _ _ hN hs ⟨aj, cj, rfl, hf⟩; rw [hfl] at hf ⊢; have hs := hs.fresh hf; (try simp only [List.cons_append, List.nil_append] at hs); refine JX.at hs ?_))
      | ((apply ax_c; apply JX_cFg 41; exact rfl; exact rfl; exact (by first | assumption | rfl | exact decide_eq_true (by first | assumption | omega) | exact decide_eq_false (by first | assumption | omega)); (intro W X hN hs; exact OpR_callF en41 rfl (joined_r _ _ _ _ [rowOf W k ws] All (slr_blk1 hs.blk (hwr _ _ hs).1 (hwr _ _ hs).2.1 (hwr _ _ hs).2.2.1 (hwr _ _ hs).2.2.2) (by omega) (by rw [hfl]; omega))); (rintro _ _ _ _ ⟨aj, cj, rfl, hf⟩; first | exact hE | exact Fresh.ext hf); rintro W X _ _ hN hs ⟨aj, cj, rfl, hf⟩; rw [hfl] at hf ⊢; have hs := hs.fresh hf; (try simp only [List.cons_append, List.nil_append] at hs); refine JX.at hs ?_))
      | ((apply al_none; have hs2 : St w (Star c0).foot _ ((ck ++ [Row aj (rowOf W k ws).length cj 41 1 (u64s (rowOf W k ws))]) ++ [Blk b13 _]) := hs.perm (by simpa using (List.perm_append_comm (l₁ := [_, _]) (l₂ := ck))); refine JL_o (OpR_callV rfl rfl (hy k _ [_] _ ck hlt hC ⟨aj, cj, rfl, rfl⟩ hs2.held hs2.frm)) rfl rfl ?_; rintro _ _ ⟨c', ⟨rfl, hC'⟩ | ⟨rfl, hC'⟩, ht⟩ <;> have hs : St w (Star c0).foot _ c' := (hs2.take ht).sub (List.sublist_append_left _ _)))
      | (apply JL_nil)
      | ((first | (apply JL_pure)); (first
      | (apply as_load; exact OpR_load_cells (T := 24) (s := 3) (vs := [.int .i64 W, .int .i64 R, .slice a ws.length c]) rfl (fun j v hv => by have := hs.keep_cell (hcell j v hv) hbF; rw [Nat.zero_add]; exact this) rfl is_rfl)
      | (apply as_move; first | exact OpR_move rfl is_rfl)
      | (apply as_assign; first | exact OpR_assign rfl is_rfl)
      | (apply as_fieldAddr; first | exact OpR_fieldAddr0 rfl rfl is_rfl | exact OpR_fieldAddr rfl rfl is_rfl)
      | (apply as_load; first | exact OpR_load' hs rfl rfl is_rfl | exact OpR_load_agg' hs rfl is_rfl)
      | (apply as_add; first | exact OpR_addn rfl rfl (by omega) (by first | (simp only [Int.reduceAdd]; exact rfl) | exact rfl) is_rfl | exact OpR_ibin rfl rfl rfl is_rfl)
      | (apply as_binOp; first | exact OpR_ibin rfl rfl rfl is_rfl | exact OpR_beq rfl rfl is_rfl | exact OpR_bne rfl rfl is_rfl | exact OpR_eqNil rfl rfl is_rfl | exact OpR_neNil rfl rfl is_rfl)
      | (apply as_unOp; first | exact OpR_not rfl is_rfl)); first | (exact rfl; exact rfl) | exact rfl)
      | (apply J_seq)
      | (apply J_region)
      | (apply J_block)
      | (apply J_inBlock)
      | (apply aj_exit; refine J_exit rfl ?_)
      | (apply J_skip)
      | (apply al_none (t := 13); refine JL_o (by apply as_buildSlice; exact OpR_buildSlice hs rfl (by omega) rfl) rfl rfl ?_; rintro _ _ ⟨b13, rfl, hb13, hs, hE⟩)
      | (apply aj_cond; first | refine J_dec_t rfl (by first | assumption | omega) ?_ | refine J_dec_f rfl (by first | assumption | omega) ?_ | refine J_cond_t rfl (by first | assumption | rfl | exact decide_eq_true (by first | assumption | omega) | exact decide_eq_false (by first | assumption | omega)) ?_ | refine J_cond_f rfl (by first | assumption | rfl | exact decide_eq_true (by first | assumption | omega) | exact decide_eq_false (by first | assumption | omega)) ?_ | (refine J_cond_dec rfl (fun _ => ?_) (fun _ => ?_)) | (refine J_cond rfl (fun _ => ?_) (fun _ => ?_))))
    · refine ih (k + 1, c') _ _ ⟨hs, hC', by dsimp only; omega⟩ (by dsimp only; omega) (by repeat' (first | exact trivial | exact rfl | apply And.intro))
    · refine J_leave Try.func49 rfl .nil ⟨c', .inr hC', St.turned (M := []) (by simpa using hs)⟩
  · have hkR : k = R.toNat := by omega
    subst hkR
    repeat' (first
      | (apply JL_nil)
      | ((first | (apply JL_pure)); (first
      | (apply as_move; first | exact OpR_move rfl is_rfl)
      | (apply as_assign; first | exact OpR_assign rfl is_rfl)
      | (apply as_fieldAddr; first | exact OpR_fieldAddr0 rfl rfl is_rfl | exact OpR_fieldAddr rfl rfl is_rfl)
      | (apply as_load; first | exact OpR_load' hs rfl rfl is_rfl | exact OpR_load_agg' hs rfl is_rfl)
      | (apply as_add; first | exact OpR_addn rfl rfl (by omega) (by first | (simp only [Int.reduceAdd]; exact rfl) | exact rfl) is_rfl | exact OpR_ibin rfl rfl rfl is_rfl)
      | (apply as_binOp; first | exact OpR_ibin rfl rfl rfl is_rfl | exact OpR_beq rfl rfl is_rfl | exact OpR_bne rfl rfl is_rfl | exact OpR_eqNil rfl rfl is_rfl | exact OpR_neNil rfl rfl is_rfl)
      | (apply as_unOp; first | exact OpR_not rfl is_rfl)); first | (exact rfl; exact rfl) | exact rfl)
      | (apply J_seq)
      | (apply J_region)
      | (apply J_block)
      | (apply J_inBlock)
      | (apply aj_exit; refine J_exit rfl ?_)
      | (apply J_skip)
      | (apply al_none (t := 13); refine JL_o (by apply as_buildSlice; exact OpR_buildSlice hs rfl (by omega) rfl) rfl rfl ?_; rintro _ _ ⟨b13, rfl, hb13, hs, hE⟩)
      | (apply aj_cond; first | refine J_dec_t rfl (by first | assumption | omega) ?_ | refine J_dec_f rfl (by first | assumption | omega) ?_ | refine J_cond_t rfl (by first | assumption | rfl | exact decide_eq_true (by first | assumption | omega) | exact decide_eq_false (by first | assumption | omega)) ?_ | refine J_cond_f rfl (by first | assumption | rfl | exact decide_eq_true (by first | assumption | omega) | exact decide_eq_false (by first | assumption | omega)) ?_ | (refine J_cond_dec rfl (fun _ => ?_) (fun _ => ?_)) | (refine J_cond rfl (fun _ => ?_) (fun _ => ?_))))
    refine J_leave_end Try.func49 rfl .nil ⟨ck, .inl hC, St.turned (M := []) (by simpa using hs)⟩
theorem St.sepA {w0 w : World} {F : Nat → Prop} {A L : List HP} {c : HP} {k : Nat} (h : St w0 F w (A ++ L)) (hc : c ∈ L) (hA : (Star A).foot k) (hk : c.foot k) : False := by
  obtain ⟨d, hd, hdk⟩ := hA
  exact (List.pairwise_append.1 h.sep).2.2 d hd c hc k hdk hk
/-- rows: the iterator. -/
theorem rowsIt_r (w : World) (W R : Int) (a : Option Addr) (n c : Nat) :
    Ret Try.prog 43 #[.agg #[.int .i64 W, .int .i64 R, .slice a n c]] w fun v w' => ∃ b, v = .func (.func 49) #[] #[ptr b] ∧ Fresh w w' [Blk b (.cells #[.int .i64 W, .int .i64 R, .slice a n c] 24 (0, 0))] := by
  refine Ret_of (l := [_]) Try.func43 rfl Try.ntmps43 (by simp) ?_
  have hs := St.init w
  repeat' (first
    | (apply JL_nil)
    | ((first | (apply JL_pure)); (first
      | (apply as_assign; first | exact OpR_assign rfl is_rfl)
      | (apply as_makeFunc; first | exact OpR_func rfl is_rfl)); first | (exact rfl; exact rfl) | exact rfl)
    | (apply J_seq)
    | (apply J_region)
    | (apply al_none (t := 1); refine JL_o (by apply as_box; exact OpR_box' hs rfl) rfl rfl ?_; rintro _ _ ⟨b1, rfl, hb1, hs, hE⟩)
    | (apply aj_cond; first | refine J_dec_t rfl (by first | assumption | omega) ?_ | refine J_dec_f rfl (by first | assumption | omega) ?_ | refine J_cond_t rfl (by first | assumption | rfl | exact decide_eq_true (by first | assumption | omega) | exact decide_eq_false (by first | assumption | omega)) ?_ | refine J_cond_f rfl (by first | assumption | rfl | exact decide_eq_true (by first | assumption | omega) | exact decide_eq_false (by first | assumption | omega)) ?_ | (refine J_cond_dec rfl (fun _ => ?_) (fun _ => ?_)) | (refine J_cond rfl (fun _ => ?_) (fun _ => ?_))))
  refine J_leave Try.func43 rfl (.tmp rfl .nil) ⟨b1, rfl, hs.out (List.Sublist.refl _)⟩
/-- Rows. -/
def rowsF (W R : Int) (ws : List Int) : List (List Int) := if colB W R ws.length = true then rowsM W R ws else []
theorem rows_r (w : World) (W R : Int) (a : Option Addr) (n c : Nat) (ws : List Int) (h : WR w a n c ws) :
    Ret Try.prog 27 #[.agg #[.int .i64 W, .int .i64 R, .slice a n c]] w fun v w' => ∃ Rg a' c' cells, v = .slice a' (rowsF W R ws).length c' ∧ Fresh w w' [Row a' (rowsF W R ws).length c' 31 1 cells, Dats Rg (tSl (tInt .u64)) cells (rowsF W R ws)] := by
  refine Ret_of (l := [_]) Try.func27 rfl Try.ntmps27 (by simp) ?_
  have hs := St.init w
  have hl := h.len
  subst hl
  unfold rowsF
  by_cases hB : colB W R ws.length = true
  · rw [if_pos hB]
    have hw := colB_W hB
    have hrl : (rowsM W R ws).length = R.toNat := by simp [rowsM]
    repeat' (first
      | ((apply al_call 28; refine JL_o (by exact OpR_callF en28 rfl (check_r _ _ _ _ _ _)) rfl rfl ?_; rintro _ _ ⟨hE, rfl⟩; have hs := hs.ext hE; rw [if_pos hB]; (try simp only [List.cons_append, List.nil_append] at hs)))
      | ((apply al_callg 28; refine JL_o_on rfl (by first | assumption | rfl | exact decide_eq_true (by first | assumption | omega) | exact decide_eq_false (by first | assumption | omega)) (by exact OpR_callF en28 rfl (check_r _ _ _ _ _ _)) rfl rfl ?_; rintro _ _ ⟨hE, rfl⟩; have hs := hs.ext hE; rw [if_pos hB]; (try simp only [List.cons_append, List.nil_append] at hs)))
      | ((apply ax_c; apply JX_cF 28; exact rfl; (intro W X hN hs; exact OpR_callF en28 rfl (check_r _ _ _ _ _ _)); (rintro _ _ _ _ ⟨hE, rfl⟩; first | exact hE | exact Fresh.ext hf); rintro W X _ _ hN hs ⟨hE, rfl⟩; have hs := hs.ext hE; rw [if_pos hB]; (try simp only [List.cons_append, List.nil_append] at hs); refine JX.at hs ?_))
      | ((apply ax_c; apply JX_cFg 28; exact rfl; exact rfl; exact (by first | assumption | rfl | exact decide_eq_true (by first | assumption | omega) | exact decide_eq_false (by first | assumption | omega)); (intro W X hN hs; exact OpR_callF en28 rfl (check_r _ _ _ _ _ _)); (rintro _ _ _ _ ⟨hE, rfl⟩; first | exact hE | exact Fresh.ext hf); rintro W X _ _ hN hs ⟨hE, rfl⟩; have hs := hs.ext hE; rw [if_pos hB]; (try simp only [List.cons_append, List.nil_append] at hs); refine JX.at hs ?_))
      | ((apply al_call 43; refine JL_o (by exact OpR_callF en43 rfl (rowsIt_r _ W R a ws.length c)) rfl rfl ?_; rintro _ _ ⟨bi, rfl, hf⟩; have hs := hs.fresh hf; (try simp only [List.cons_append, List.nil_append] at hs)))
      | ((apply al_callg 43; refine JL_o_on rfl (by first | assumption | rfl | exact decide_eq_true (by first | assumption | omega) | exact decide_eq_false (by first | assumption | omega)) (by exact OpR_callF en43 rfl (rowsIt_r _ W R a ws.length c)) rfl rfl ?_; rintro _ _ ⟨bi, rfl, hf⟩; have hs := hs.fresh hf; (try simp only [List.cons_append, List.nil_append] at hs)))
      | ((apply ax_c; apply JX_cF 43; exact rfl; (intro W X hN hs; exact OpR_callF en43 rfl (rowsIt_r _ W R a ws.length c)); (rintro _ _ _ _ ⟨bi, rfl, hf⟩; first | exact hE | exact Fresh.ext hf); rintro W X _ _ hN hs ⟨bi, rfl, hf⟩; have hs := hs.fresh hf; (try simp only [List.cons_append, List.nil_append] at hs); refine JX.at hs ?_))
      | ((apply ax_c; apply JX_cFg 43; exact rfl; exact rfl; exact (by first | assumption | rfl | exact decide_eq_true (by first | assumption | omega) | exact decide_eq_false (by first | assumption | omega)); (intro W X hN hs; exact OpR_callF en43 rfl (rowsIt_r _ W R a ws.length c)); (rintro _ _ _ _ ⟨bi, rfl, hf⟩; first | exact hE | exact Fresh.ext hf); rintro W X _ _ hN hs ⟨bi, rfl, hf⟩; have hs := hs.fresh hf; (try simp only [List.cons_append, List.nil_append] at hs); refine JX.at hs ?_))
      | (apply JL_nil)
      | ((first | (apply JL_pure)); (first
      | (apply as_move; first | exact OpR_move rfl is_rfl)
      | (apply as_assign; first | exact OpR_assign rfl is_rfl)
      | (apply as_load; first | exact OpR_load' hs rfl rfl is_rfl | exact OpR_load_agg' hs rfl is_rfl)
      | (apply as_binOp; first | exact OpR_ibin rfl rfl rfl is_rfl | exact OpR_beq rfl rfl is_rfl | exact OpR_bne rfl rfl is_rfl | exact OpR_eqNil rfl rfl is_rfl | exact OpR_neNil rfl rfl is_rfl)); first | (exact rfl; exact rfl) | exact rfl)
      | (apply J_seq)
      | (apply J_region)
      | (apply J_block)
      | (apply J_inBlock)
      | (apply J_skip)
      | (apply al_none (t := 1); refine JL_o (by apply as_box; exact OpR_box' hs rfl) rfl rfl ?_; rintro _ _ ⟨b1, rfl, hb1, hs, hE⟩)
      | (apply al_none (t := 3); refine JL_o (by apply as_alloc; exact OpR_alloc' hs) rfl rfl ?_; rintro _ _ ⟨b3, rfl, hb3, hs, hE⟩)
      | (apply al_none (t := 13); refine JL_o (by apply as_buildSlice; exact OpR_buildSlice hs rfl (by omega) rfl) rfl rfl ?_; rintro _ _ ⟨b13, rfl, hb13, hs, hE⟩)
      | (apply al_unit; refine JL_u (by apply as_store; exact OpR_store' hs rfl rfl rfl) rfl ?_; rintro _ _ ⟨hs, hF⟩)
      | (apply aj_cond; first | refine J_dec_t rfl (by first | assumption | omega) ?_ | refine J_dec_f rfl (by first | assumption | omega) ?_ | refine J_cond_t rfl (by first | assumption | rfl | exact decide_eq_true (by first | assumption | omega) | exact decide_eq_false (by first | assumption | omega)) ?_ | refine J_cond_f rfl (by first | assumption | rfl | exact decide_eq_true (by first | assumption | omega) | exact decide_eq_false (by first | assumption | omega)) ?_ | (refine J_cond_dec rfl (fun _ => ?_) (fun _ => ?_)) | (refine J_cond rfl (fun _ => ?_) (fun _ => ?_))))
    have hs : St w NoF _ [Blk b3 (.cells #[.slice none 0 0] 26 (0, 0)), Row none 0 0 31 1 [], Dats NoF (tSl (tInt .u64)) [] [], Blk bi (.cells #[.int .i64 W, .int .i64 R, .slice a ws.length c] 24 (0, 0)), Blk b1 (.cells #[.int .i64 W, .int .i64 R, .slice a ws.length c] 24 (0, 0))] := ((hs.nilDats (tSl (tInt .u64))).nilRow 31 1).to _
    have hbi := hs.blk (b := bi)
    have hbl := hs.lt (b := bi)
    have hs : St w NoF _ ([_, _, _] ++ [_, _]) := hs
    refine J_range (ps := [10]) hs rfl ⟨49, #[ptr bi], rfl, en49⟩ (rowsIt_ok _ W R bi a ws.length c 24 ws (h.st hs) hB hbi)
      (fun k A => ∃ a' c' cells Rg, A = [Blk b3 (.cells #[.slice a' k c'] 26 (0, 0)), Row a' k c' 31 1 cells, Dats Rg (tSl (tInt .u64)) cells ((rowsM W R ws).take k)]) (fun _ _ => False) ⟨_, _, _, _, rfl⟩ ?_ (by decide) ?_ ?_ ?_ (fun _ _ _ _ h => h.elim)
    · rintro k (rfl | hk)
      · refine ⟨rfl, fun hk => ?_, hbl⟩
        exact hs.sepA (.head _) hk (blk_foot _ _)
      · have h1 := h.2.2.2.below k hk
        exact ⟨rfl, fun hf => by have := hs.foot0 k hf; omega, Nat.lt_of_lt_of_le h1 hs.frm.size⟩
    · rintro i vals cx ⟨_, _, rfl, _⟩; rfl
    · rintro l D tm k w1 A1 cx vals hD hDl hk ⟨a', c', cells, Rg, rfl⟩ ⟨av, cv, rfl, rfl⟩ hh -
      have hs : St _ _ _ [_, _, _, _, _] := hh.st
      have hb := row_bd (r := k) hB (by omega)
      have hu : U64 (rowOf W k ws) := u64_row h.u64
      have hlr : (rowOf W k ws).length = W.toNat := by simp [rowOf]; omega
      have htk : (rowsM W R ws).take (k + 1) = (rowsM W R ws).take k ++ [rowOf W k ws] := by
        rw [List.take_succ_eq_append_getElem (by omega)]; simp [rowsM]
      repeat' (first
        | ((refine J_beginRound hs (fun w2 hs => ?_)))
        | ((apply al_none; refine JL_o (by apply as_b_append; exact OpR_append (xs := cells) hs rfl rfl (src_blk1 hs.blk rfl) plain_blk rfl (by omega) (by unfold maxLen; omega)) rfl rfl ?_; rintro _ _ ⟨a3, c3, rfl, hs, hF, hnil⟩))
        | ((apply al_unit; refine JL_u (by apply as_store; exact OpR_store' hs rfl rfl rfl) rfl ?_; rintro _ _ ⟨hs, hF⟩))
        | (apply JL_nil)
        | ((first | (apply JL_pure)); (first
      | (apply as_move; first | exact OpR_move rfl is_rfl)
      | (apply as_assign; first | exact OpR_assign rfl is_rfl)
      | (apply as_load; first | exact OpR_load' hs rfl rfl is_rfl | exact OpR_load_agg' hs rfl is_rfl)
      | (apply as_binOp; first | exact OpR_ibin rfl rfl rfl is_rfl | exact OpR_beq rfl rfl is_rfl | exact OpR_bne rfl rfl is_rfl | exact OpR_eqNil rfl rfl is_rfl | exact OpR_neNil rfl rfl is_rfl)); first | (exact rfl; exact rfl) | exact rfl)
        | (apply J_seq)
        | (apply J_region)
        | (apply J_block)
        | (apply J_inBlock)
        | (apply J_skip)
        | (apply al_none (t := 1); refine JL_o (by apply as_box; exact OpR_box' hs rfl) rfl rfl ?_; rintro _ _ ⟨b1, rfl, hb1, hs, hE⟩)
        | (apply al_none (t := 3); refine JL_o (by apply as_alloc; exact OpR_alloc' hs) rfl rfl ?_; rintro _ _ ⟨b3, rfl, hb3, hs, hE⟩)
        | (apply al_none (t := 13); refine JL_o (by apply as_buildSlice; exact OpR_buildSlice hs rfl (by omega) rfl) rfl rfl ?_; rintro _ _ ⟨b13, rfl, hb13, hs, hE⟩)
        | (apply al_unit; refine JL_u (by apply as_store; exact OpR_store' hs rfl rfl rfl) rfl ?_; rintro _ _ ⟨hs, hF⟩)
        | (apply aj_cond; first | refine J_dec_t rfl (by first | assumption | omega) ?_ | refine J_dec_f rfl (by first | assumption | omega) ?_ | refine J_cond_t rfl (by first | assumption | rfl | exact decide_eq_true (by first | assumption | omega) | exact decide_eq_false (by first | assumption | omega)) ?_ | refine J_cond_f rfl (by first | assumption | rfl | exact decide_eq_true (by first | assumption | omega) | exact decide_eq_false (by first | assumption | omega)) ?_ | (refine J_cond_dec rfl (fun _ => ?_) (fun _ => ?_)) | (refine J_cond rfl (fun _ => ?_) (fun _ => ?_))))
      have hs : St _ _ _ [_, _, _, _, _] := hs.sel [5, 4, 1, 2, 3] (by decide)
      have hs := (St.rowFrz (k := .u64) hs hu).pushFrz
      rw [← htk] at hs
      have hs : St _ _ _ [_, _, _, _] := hs.sel [1, 2, 3, 0] (by decide)
      refine J_roundEnd hs (fun w3 hs => .inl ⟨rfl, _, ⟨a3, c3, _, _, rfl⟩, St.turned (M := []) hs⟩)
    · rintro w2 D A2 ⟨a', c', cells, Rg, rfl⟩ hs
      have hs : St _ _ _ [_, _, _, _, _, _] := hs
      have e : (rowsM W R ws).take R.toNat = rowsM W R ws := List.take_of_length_le (by omega)
      rw [e] at hs
      repeat' (first
        | ((refine J_retL (Lv_coll hs (fun w3 hs => Lv_nil Try.func27 rfl (.tmp rfl .nil) ⟨Rg, a', c', cells, by rw [hrl]; rfl, ?_⟩))))
        | (apply JL_nil)
        | ((first | (apply JL_pure)); (first
      | (apply as_move; first | exact OpR_move rfl is_rfl)
      | (apply as_assign; first | exact OpR_assign rfl is_rfl)
      | (apply as_load; first | exact OpR_load' hs rfl rfl is_rfl | exact OpR_load_agg' hs rfl is_rfl)
      | (apply as_binOp; first | exact OpR_ibin rfl rfl rfl is_rfl | exact OpR_beq rfl rfl is_rfl | exact OpR_bne rfl rfl is_rfl | exact OpR_eqNil rfl rfl is_rfl | exact OpR_neNil rfl rfl is_rfl)); first | (exact rfl; exact rfl) | exact rfl)
        | (apply J_seq)
        | (apply J_region)
        | (apply J_block)
        | (apply J_inBlock)
        | (apply J_skip)
        | (apply al_none (t := 1); refine JL_o (by apply as_box; exact OpR_box' hs rfl) rfl rfl ?_; rintro _ _ ⟨b1, rfl, hb1, hs, hE⟩)
        | (apply al_none (t := 3); refine JL_o (by apply as_alloc; exact OpR_alloc' hs) rfl rfl ?_; rintro _ _ ⟨b3, rfl, hb3, hs, hE⟩)
        | (apply al_none (t := 13); refine JL_o (by apply as_buildSlice; exact OpR_buildSlice hs rfl (by omega) rfl) rfl rfl ?_; rintro _ _ ⟨b13, rfl, hb13, hs, hE⟩)
        | (apply al_unit; refine JL_u (by apply as_store; exact OpR_store' hs rfl rfl rfl) rfl ?_; rintro _ _ ⟨hs, hF⟩)
        | (apply aj_cond; first | refine J_dec_t rfl (by first | assumption | omega) ?_ | refine J_dec_f rfl (by first | assumption | omega) ?_ | refine J_cond_t rfl (by first | assumption | rfl | exact decide_eq_true (by first | assumption | omega) | exact decide_eq_false (by first | assumption | omega)) ?_ | refine J_cond_f rfl (by first | assumption | rfl | exact decide_eq_true (by first | assumption | omega) | exact decide_eq_false (by first | assumption | omega)) ?_ | (refine J_cond_dec rfl (fun _ => ?_) (fun _ => ?_)) | (refine J_cond rfl (fun _ => ?_) (fun _ => ?_))))
      rw [hrl]
      exact Fresh.ext_l (Ext.refl _) ((hs.to [Row a' R.toNat c' 31 1 cells, Dats Rg (tSl (tInt .u64)) cells (rowsM W R ws)]).out (List.Sublist.refl _))
  · rw [if_neg hB]
    repeat' (first
      | ((apply al_call 28; refine JL_o (by exact OpR_callF en28 rfl (check_r _ _ _ _ _ _)) rfl rfl ?_; rintro _ _ ⟨hE, rfl⟩; have hs := hs.ext hE; rw [if_neg hB]; (try simp only [List.cons_append, List.nil_append] at hs)))
      | ((apply al_callg 28; refine JL_o_on rfl (by first | assumption | rfl | exact decide_eq_true (by first | assumption | omega) | exact decide_eq_false (by first | assumption | omega)) (by exact OpR_callF en28 rfl (check_r _ _ _ _ _ _)) rfl rfl ?_; rintro _ _ ⟨hE, rfl⟩; have hs := hs.ext hE; rw [if_neg hB]; (try simp only [List.cons_append, List.nil_append] at hs)))
      | ((apply ax_c; apply JX_cF 28; exact rfl; (intro W X hN hs; exact OpR_callF en28 rfl (check_r _ _ _ _ _ _)); (rintro _ _ _ _ ⟨hE, rfl⟩; first | exact hE | exact Fresh.ext hf); rintro W X _ _ hN hs ⟨hE, rfl⟩; have hs := hs.ext hE; rw [if_neg hB]; (try simp only [List.cons_append, List.nil_append] at hs); refine JX.at hs ?_))
      | ((apply ax_c; apply JX_cFg 28; exact rfl; exact rfl; exact (by first | assumption | rfl | exact decide_eq_true (by first | assumption | omega) | exact decide_eq_false (by first | assumption | omega)); (intro W X hN hs; exact OpR_callF en28 rfl (check_r _ _ _ _ _ _)); (rintro _ _ _ _ ⟨hE, rfl⟩; first | exact hE | exact Fresh.ext hf); rintro W X _ _ hN hs ⟨hE, rfl⟩; have hs := hs.ext hE; rw [if_neg hB]; (try simp only [List.cons_append, List.nil_append] at hs); refine JX.at hs ?_))
      | (apply JL_nil)
      | ((first | (apply JL_pure)); (first
      | (apply as_move; first | exact OpR_move rfl is_rfl)
      | (apply as_assign; first | exact OpR_assign rfl is_rfl)
      | (apply as_load; first | exact OpR_load' hs rfl rfl is_rfl | exact OpR_load_agg' hs rfl is_rfl)
      | (apply as_binOp; first | exact OpR_ibin rfl rfl rfl is_rfl | exact OpR_beq rfl rfl is_rfl | exact OpR_bne rfl rfl is_rfl | exact OpR_eqNil rfl rfl is_rfl | exact OpR_neNil rfl rfl is_rfl)); first | (exact rfl; exact rfl) | exact rfl)
      | (apply J_seq)
      | (apply J_region)
      | (apply J_block)
      | (apply J_inBlock)
      | (apply J_skip)
      | (apply al_none (t := 1); refine JL_o (by apply as_box; exact OpR_box' hs rfl) rfl rfl ?_; rintro _ _ ⟨b1, rfl, hb1, hs, hE⟩)
      | (apply al_none (t := 3); refine JL_o (by apply as_alloc; exact OpR_alloc' hs) rfl rfl ?_; rintro _ _ ⟨b3, rfl, hb3, hs, hE⟩)
      | (apply al_none (t := 13); refine JL_o (by apply as_buildSlice; exact OpR_buildSlice hs rfl (by omega) rfl) rfl rfl ?_; rintro _ _ ⟨b13, rfl, hb13, hs, hE⟩)
      | (apply al_unit; refine JL_u (by apply as_store; exact OpR_store' hs rfl rfl rfl) rfl ?_; rintro _ _ ⟨hs, hF⟩)
      | (apply aj_cond; first | refine J_dec_t rfl (by first | assumption | omega) ?_ | refine J_dec_f rfl (by first | assumption | omega) ?_ | refine J_cond_t rfl (by first | assumption | rfl | exact decide_eq_true (by first | assumption | omega) | exact decide_eq_false (by first | assumption | omega)) ?_ | refine J_cond_f rfl (by first | assumption | rfl | exact decide_eq_true (by first | assumption | omega) | exact decide_eq_false (by first | assumption | omega)) ?_ | (refine J_cond_dec rfl (fun _ => ?_) (fun _ => ?_)) | (refine J_cond rfl (fun _ => ?_) (fun _ => ?_))))
    have hs := (hs.nilDats (tSl (tInt .u64))).nilRow 31 1
    refine J_leave Try.func27 rfl (.tmp rfl .nil) ⟨_, _, _, _, rfl, hs.out (.cons_cons _ (.cons_cons _ (List.nil_sublist _)))⟩
end Go.Eng
