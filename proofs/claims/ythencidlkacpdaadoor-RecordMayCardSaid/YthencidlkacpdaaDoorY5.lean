/- The texts D33, D34, joined. -/
import Derived.Test.YthencidlkacpdaaDoorY4
/- Record: what the program's turns come to is what the reference's come to. -/
namespace Go.Eng
open Go.Proofs
set_option linter.unusedSimpArgs false
set_option linter.unusedVariables false
abbrev Trn := Int × Int × Int × Int
abbrev dTrn : Ty Trn := tPair (tInt .i64) (tPair (tInt .i64) (tPair (tInt .i64) (tInt .i64)))
theorem flatTrn : FlatTy dTrn (fun p => [.int .i64 p.1, .int .i64 p.2.1, .int .i64 p.2.2.1, .int .i64 p.2.2.2]) (fun p => inK .i64 p.1 ∧ inK .i64 p.2.1 ∧ inK .i64 p.2.2.1 ∧ inK .i64 p.2.2.2) :=
  (inferInstance : FlatTy (tPair (tInt .i64) (tPair (tInt .i64) (tPair (tInt .i64) (tInt .i64)))) (fun p => [.int .i64 p.1] ++ ([.int .i64 p.2.1] ++ ([.int .i64 p.2.2.1] ++ [.int .i64 p.2.2.2]))) (fun p => inK .i64 p.1 ∧ inK .i64 p.2.1 ∧ inK .i64 p.2.2.1 ∧ inK .i64 p.2.2.2))
instance (priority := high) : FlatTy dTrn (fun p => [.int .i64 p.1, .int .i64 p.2.1, .int .i64 p.2.2.1, .int .i64 p.2.2.2]) (fun p => inK .i64 p.1 ∧ inK .i64 p.2.1 ∧ inK .i64 p.2.2.1 ∧ inK .i64 p.2.2.2) := flatTrn
def turnP (xs : List Sp) (t : Trn) : List Sp × Int :=
  if t.1 = 0 then doesM xs (putE xs t.2.1 (t.2.2.1, t.2.2.2)) (putY xs t.2.1 (t.2.2.1, t.2.2.2)) else
  if t.1 = 1 then doesM xs (dropE xs t.2.1) (dropY xs t.2.1) else doesM xs (swE xs t.2.1 t.2.2.2) (swY xs t.2.1 t.2.2.2)
theorem turn_no {xs : List Sp} (h : rightB xs = false) (t : Trn) : turnP xs t = ([], 200) := by
  unfold turnP doesM
  simp [h]
theorem spotR_0 {s : Sp} (h : spotR s = true) : s.1 = 0 ↔ s = (0, 0) := by
  unfold spotR at h; rw [decide_eq_true_eq] at h
  exact ⟨fun h0 => Prod.ext h0 (by show s.2 = 0; omega), fun e => by rw [e]⟩
theorem who_ref {xs : List Sp} (h : RightV xs) {s : Sp} (h0 : 0 < s.1) : refWhoM xs s = whoM xs s := by
  have n0 : s ≠ (0, 0) := fun e => by rw [e] at h0; simp at h0
  unfold refWhoM
  rw [if_pos h0]
  cases hf : xs.findIdx? (fun y => decide (y = s)) with
  | none =>
    rw [List.findIdx?_eq_none_iff] at hf
    rcases whoM_or xs s with ⟨h1, _⟩ | ⟨k, _, h2, _⟩
    · exact h1.symm
    · have := hf s (List.mem_of_getElem? (some_gt h2 n0))
      simp at this
  | some k =>
    rw [List.findIdx?_eq_some_iff_getElem] at hf
    obtain ⟨h1, h2, _⟩ := hf
    exact (whoM_at h (by rw [gt_lt h1]; simpa using h2) h0).symm
theorem rput_eq {xs : List Sp} (h : RightV xs) (i : Int) (s : Sp) : doesM xs (putE xs i s) (putY xs i s) = putRM xs i s := by
  have hr := rightV_iff.2 h
  have hbad : pBad i s ↔ putBad i s := by
    unfold pBad putBad
    have h1 : spotB s = false ↔ spotR s = false ∨ s.1 = 0 := by
      cases hR : spotR s with
      | false =>
        cases hB : spotB s with
        | false => simp
        | true => rw [(spotB_iff.1 hB).1] at hR; cases hR
      | true =>
        cases hB : spotB s with
        | false =>
          simp only [Bool.true_eq_false, false_or, true_iff]
          rw [spotR_0 hR]
          by_cases h2 : s = (0, 0)
          · exact h2
          · rw [spotB_iff.2 ⟨hR, h2⟩] at hB; cases hB
        | true =>
          simp only [Bool.true_eq_false, false_or, false_iff]
          rw [spotR_0 hR]; exact (spotB_iff.1 hB).2
    rw [h1]
  unfold putE putY putRM
  by_cases hb : pBad i s
  · rw [if_pos hb, if_pos hb, if_pos (hbad.1 hb)]; unfold doesM; rw [if_pos hr]; rfl
  · rw [if_neg hb, if_neg hb, if_neg (fun h2 => hb (hbad.2 h2))]
    have hb2 : ¬ i < 1 ∧ ¬ 1048578 < i ∧ spotB s = true := by
      unfold pBad at hb
      refine ⟨fun q => hb (.inl q), fun q => hb (.inr (.inl q)), ?_⟩
      cases hB : spotB s with
      | true => rfl
      | false => exact absurd (.inr (.inr hB)) hb
    have hsp := spotB_iff.1 hb2.2.2
    have h0 : 0 < s.1 := by have := hb2.2.2; unfold spotB at this; rw [decide_eq_true_eq] at this; omega
    rw [who_ref h h0]
    by_cases hw : 0 < whoM xs s ∧ (whoM xs s : Int) ≠ i
    · rw [if_pos hw, if_pos hw, if_pos hw]; unfold doesM; rw [if_pos hr]; rfl
    · rw [if_neg hw, if_neg hw, if_neg hw, doesM_0 hr, trim_t0]
      intro k
      rw [gt_put (by omega)]
      split
      · exact hsp.1
      · exact h.spot k
theorem at_spot {xs : List Sp} (h : RightV xs) (i : Int) : spotR (atM xs i) = true := by
  rcases atM_or xs i with ⟨_, h1⟩ | ⟨k, _, h1⟩
  · rw [h1]; decide
  · rw [h1]; exact h.spot k
theorem at_0 {xs : List Sp} (h : RightV xs) (i : Int) : ((atM xs i).1 = 0 ∧ (atM xs i).2 = 0) ↔ (atM xs i).1 = 0 := by
  have := spotR_0 (at_spot h i)
  exact ⟨fun h1 => h1.1, fun h1 => by rw [this.1 h1]; exact ⟨rfl, rfl⟩⟩
theorem rdrop_eq {xs : List Sp} (h : RightV xs) (i : Int) : doesM xs (dropE xs i) (dropY xs i) = dropRM xs i := by
  have hr := rightV_iff.2 h
  unfold dropE dropY dropRM
  by_cases h0 : (atM xs i).1 = 0
  · rw [if_pos ((at_0 h i).2 h0), if_pos h0]; unfold doesM; rw [if_pos hr]; rfl
  · rw [if_neg (fun q => h0 q.1), if_neg (fun q => h0 q.1), if_neg h0, doesM_0 hr, trim_t0]
    have hi : 1 ≤ i.toNat := by
      rcases atM_or xs i with ⟨_, h1⟩ | ⟨k, rfl, _⟩
      · rw [h1] at h0; exact absurd rfl h0
      · omega
    intro k
    rw [gt_put hi]
    split
    · decide
    · exact h.spot k
theorem doesM_ne {xs zs : List Sp} {e : Int} (h : rightB xs = true) (he : e ≠ 0) : doesM xs e zs = ([], e) := by unfold doesM; rw [if_pos h, if_neg he]
theorem rswap_eq {xs : List Sp} (h : RightV xs) (i last : Int) : doesM xs (swE xs i last) (swY xs i last) = swapRM xs i last := by
  have hr := rightV_iff.2 h
  obtain ⟨s, hs⟩ : ∃ s, s = atM xs i := ⟨_, rfl⟩
  have hsp := at_spot h i
  have hz := at_0 h i
  unfold swE swY swapRM
  rw [← hs] at hsp hz ⊢
  by_cases h0 : s.1 = 0
  · have e1 : (if s.1 = 0 ∧ s.2 = 0 then (4 : Int) else if whoM xs (s.1, last) = 0 ∨ xs.any (aboveB s last) = true then 2 else 0) = 4 := if_pos (hz.2 h0)
    rw [e1, doesM_ne hr (by decide), if_pos h0]
  have n1 : ¬ (s.1 = 0 ∧ s.2 = 0) := fun q => h0 q.1
  have hpos : 0 < s.1 := by unfold spotR at hsp; rw [decide_eq_true_eq] at hsp; omega
  rw [if_neg h0, if_neg n1, if_neg n1, who_ref h (s := (s.1, last)) hpos]
  have n0 : s ≠ (0, 0) := fun e => by rw [e] at h0; exact h0 rfl
  obtain ⟨k, rfl, h1⟩ := (atM_or xs i).resolve_left (fun q => n0 (hs.trans q.2))
  rw [← hs] at h1
  have hin := some_gt h1.symm n0
  by_cases W : whoM xs (s.1, last) = 0 ∨ xs.any (aboveB s last) = true
  · have e1 : (if whoM xs (s.1, last) = 0 ∨ xs.any (aboveB s last) = true then (2 : Int) else 0) = 2 := if_pos W
    rw [e1, doesM_ne hr (by decide)]
    by_cases V : last < s.2 ∨ whoM xs (s.1, last) = 0
    · rw [if_pos V]
    · rw [if_neg V, if_pos (W.resolve_left (fun q => V (.inr q)))]
  · have hw : ¬ whoM xs (s.1, last) = 0 := fun q => W (.inl q)
    have ha : ¬ xs.any (aboveB s last) = true := fun q => W (.inr q)
    have hl : ¬ last < s.2 := fun hl => ha (List.any_eq_true.2 ⟨s, List.mem_of_getElem? hin, by unfold aboveB; simp [hl]⟩)
    have V : ¬ (last < s.2 ∨ whoM xs (s.1, last) = 0) := fun q => q.elim hl hw
    rw [if_neg W, if_neg W, if_neg V, if_neg ha, doesM_0 hr, Int.toNat_natCast]
    obtain ⟨e, he, hge, _⟩ := (whoM_or xs (s.1, last)).resolve_left (fun q => hw q.1)
    rw [he]
    have sp1 : ∀ j, spotR (gt (putM xs (k + 1) (0, 0)) j) = true := fun j => by
      rw [gt_put (by omega)]
      split
      · decide
      · exact h.spot j
    by_cases hek : ((e + 1 : Nat) : Int) = ((k + 1 : Nat) : Int)
    · rw [if_pos hek, trim_t0 sp1]
      refine Prod.ext (gt_ext (trimd_trim _) (trimd_trim _) fun j => ?_) rfl
      rw [gt_trim, gt_trim, gt_put (by omega), gt_put (by omega), gt_put (by omega)]
      by_cases hj : j + 1 = k + 1
      · rw [if_pos hj, if_pos hj]
      · rw [if_neg hj, if_neg hj, if_neg (by omega)]
    · rw [if_neg hek, trim_t0 sp1, trim_t0]
      · refine Prod.ext (gt_ext (trimd_trim _) (trimd_trim _) fun j => ?_) rfl
        rw [gt_trim, gt_trim, gt_put (by omega), gt_put (by omega), gt_put (by omega), gt_trim, gt_put (by omega)]
        by_cases hj : j + 1 = k + 1
        · rw [if_pos hj, if_neg (by omega), if_pos hj]
        · rw [if_neg hj, if_neg hj]
      · intro j
        rw [gt_put (by omega), gt_trim, gt_put (by omega)]
        split
        · exact hsp
        · split
          · decide
          · exact h.spot j
end Go.Eng
/- RecordTurns: what becomes of records, turn by turn. -/
namespace Go.Eng
open Go.Proofs
set_option linter.unusedSimpArgs false
set_option linter.unusedVariables false
theorem cSp_set2 {gs : List Sp} {m : Nat} {y : Sp} (hy : gs[m]? = some y) (v : Int) : splice (cSp gs) (m * 2 + 1) [.int .i64 v] = cSp (gs.set m (y.1, v)) := by
  have hm := (List.getElem?_eq_some_iff.1 hy).1
  have h0 : (cSp gs)[m * 2]? = some (.int .i64 y.1) := encL_get (d := dSp) gs m 0 y hy (by decide)
  obtain ⟨h1, h2⟩ := List.getElem?_eq_some_iff.1 h0
  rw [cSp_set gs m (y.1, v) hm]
  simp only [splice, List.length_cons, List.length_nil, Nat.zero_add]
  rw [List.take_succ_eq_append_getElem h1, h2]
  simp
theorem mem_doesM {xs zs : List Sp} {e : Int} {s : Sp} (h : s ∈ (doesM xs e zs).1) : s ∈ zs := by
  unfold doesM at h
  split at h
  · split at h
    · exact mem_trimM h
    · cases h
  · cases h
theorem atM_ok {xs : List Sp} (hx : ∀ s ∈ xs, okS s) (i : Int) : okS (atM xs i) := by
  rcases atM_or xs i with ⟨_, h⟩ | ⟨k, _, h⟩
  · rw [h]; exact okS0
  · rw [h]
    by_cases h0 : gt xs k = (0, 0)
    · rw [h0]; exact okS0
    · exact hx _ (List.mem_of_getElem? (some_gt rfl h0))
theorem put_ok {xs : List Sp} (hx : ∀ s ∈ xs, okS s) {i : Nat} {t : Sp} (ht : okS t) : ∀ s ∈ putM xs i t, okS s := fun s hs => by
  rcases mem_putM hs with h | h | h
  · exact hx s h
  · rw [h]; exact okS0
  · rw [h]; exact ht
theorem turn_ok {xs : List Sp} (hx : ∀ s ∈ xs, okS s) {t : Trn} (ht : okS (t.2.2.1, t.2.2.2)) : ∀ s ∈ (turnP xs t).1, okS s := fun s hs => by
  unfold turnP at hs
  split at hs
  · have h := mem_doesM hs
    unfold putY at h
    split at h
    · exact hx s h
    · split at h
      · exact hx s h
      · exact put_ok hx ht s h
  · split at hs
    · have h := mem_doesM hs
      unfold dropY at h
      split at h
      · exact hx s h
      · exact put_ok hx okS0 s h
    · have h := mem_doesM hs
      unfold swY at h
      split at h
      · exact hx s h
      · split at h
        · exact hx s h
        · exact put_ok (put_ok hx (atM_ok hx _)) okS0 s h
attribute [local irreducible] Hold J JL JD JX JXat OpR OpG Ret RetV Is Blk Row MapC
set_option maxRecDepth 100000
set_option maxHeartbeats 1000000
theorem recordTurns_w (w : World) (hG : Gz w) (a : Option Addr) (n c : Nat) (xs : List Sp) (al : Option Addr) (nl cl : Nat) (ts : List Trn) (h : Sl dSp All w a n c xs) (hl : Sl dTrn All w al nl cl ts) :
    Ret Tryd.prog 4 #[.agg #[.slice a n c], .slice al nl cl] w fun v w' => v = .bool true ∧ Ext w w' := by
  refine Ret_of (l := [_, _]) Tryd.func4 rfl Tryd.ntmps4 (by simp) ?_
  have hs := St.init w
  have hll := hl.len
  have hlc := hl.le
  have hlm := hl.cap
  unfold maxLen at hlm
  obtain ⟨zs, hzs⟩ : ∃ zs, zs = xs.take 40 := ⟨_, rfl⟩
  have hzl : zs.length ≤ 40 := by rw [hzs]; exact take40 xs
  have hzok : ∀ s ∈ zs, okS s := fun s hs => by
    rw [hzs] at hs
    obtain ⟨j, hj⟩ := List.mem_iff_getElem?.1 (List.mem_of_mem_take hs); exact h.okSp hj
  repeat' (first
    | ((apply al_call 8; refine JL_o (by exact OpR_callF en8 rfl (wakes_r _ (hG.st hs))) rfl rfl ?_; rintro _ _ ⟨rfl, hE⟩; have hs := hs.ext hE; (try simp only [List.cons_append, List.nil_append] at hs)))
    | ((apply al_call 9; refine JL_o (by exact OpR_callF en9 rfl (own_r _ a n c xs (h.st hs))) rfl rfl ?_; rintro _ _ ⟨ac, cc, rfl, hf⟩; rw [← hzs] at hf ⊢; have hs := hs.fresh hf; (try simp only [List.cons_append, List.nil_append] at hs)))
    | (apply JL_nil)
    | ((apply JL_pure); (first
      | (apply as_move; exact OpR_move rfl is_rfl)
      | (apply as_assign; exact OpR_assign rfl is_rfl)
      | (apply as_load; exact OpR_load_agg' hs rfl is_rfl)
      | (apply as_unOp; exact OpR_not rfl is_rfl)
      | (apply as_b_len; exact OpR_len rfl is_rfl)); first | (exact rfl; exact rfl) | exact rfl)
    | (apply J_seq)
    | (apply J_region)
    | (apply J_block)
    | (apply J_skip)
    | (apply al_none (t := 2); refine JL_o (by apply as_box; exact OpR_box' hs rfl) rfl rfl ?_; rintro _ _ ⟨b2, rfl, hb2, hs, hE⟩)
    | (apply al_none (t := 5); refine JL_o (by apply as_alloc; exact OpR_alloc' hs) rfl rfl ?_; rintro _ _ ⟨b5, rfl, hb5, hs, hE⟩)
    | (apply al_unit; refine JL_u (by apply as_store; exact OpR_store' hs rfl rfl rfl) rfl ?_; rintro _ _ ⟨hs, hF⟩)
    | (apply aj_cond; refine J_cond_f rfl (by first | assumption | rfl | exact decide_eq_true (by first | assumption | omega) | exact decide_eq_false (by first | assumption | omega)) ?_))
  refine J_loopK (α := Nat × List Sp × Option Addr × Nat) [(5, _), (19, _), (20, _)] (fun g => [(21, .int .i64 g.1)]) (fun g w' => St w NoF w' [Blk b5 (.cells #[.slice g.2.2.1 g.2.1.length g.2.2.2] 24 (0, 0)), Row g.2.2.1 g.2.1.length g.2.2.2 34 2 (cSp g.2.1)] ∧ g.2.1.length ≤ 40 ∧ (∀ s ∈ g.2.1, okS s) ∧ g.1 ≤ nl) (fun g => nl - g.1) (0, zs, ac, cc) ⟨hs.sel [0, 1] (by decide), hzl, hzok, by dsimp only; omega⟩ (by repeat' (first | exact trivial | exact rfl | apply And.intro)) ?_
  rintro ⟨k, ys, ar, cr⟩ w1 ⟨hs1, hyl, hok, hk⟩ ih
  dsimp only at hs1 hyl hok hk ih ⊢
  have hs : St w NoF w1 [_, _] := hs1
  have htk : ys.take 40 = ys := List.take_of_length_le hyl
  by_cases hlt : k < nl
  · obtain ⟨p1, o1, rfl⟩ := hl.sl.addr (by omega)
    have hx : ts[k]? = some ts[k] := List.getElem?_eq_getElem (by omega)
    obtain ⟨x, hxd⟩ : ∃ x, x = ts[k] := ⟨_, rfl⟩
    rw [← hxd] at hx
    obtain ⟨x1, x2, x3, x4⟩ := x
    have hxo := (hl.elF hx).1
    by_cases hk8 : k = 8
    · subst hk8
      repeat' (first
        | (apply JL_nil)
        | ((apply JL_pure); (first
      | (apply as_load; first | exact OpR_load' hs rfl rfl is_rfl | exact OpR_load_agg' hs rfl is_rfl | exact OpR_load_el (hl.st hs) hx rfl rfl is_rfl)
      | (apply as_move; exact OpR_move rfl is_rfl)
      | (apply as_assign; exact OpR_assign rfl is_rfl)
      | (apply as_binOp; exact OpR_ibin rfl rfl rfl is_rfl)
      | (apply as_indexAddr; exact OpR_indexAddr rfl rfl (by omega) (by omega) is_rfl)); first | (exact rfl; exact rfl) | exact rfl)
        | (apply J_seq)
        | (apply J_region)
        | (apply J_block)
        | (apply aj_exit; refine J_exit rfl ?_)
        | (apply J_skip)
        | (apply al_none (t := 7); refine JL_o (by apply as_alloc; exact OpR_alloc' hs) rfl rfl ?_; rintro _ _ ⟨b7, rfl, hb7, hs, hE⟩)
        | (apply al_unit; refine JL_u (by apply as_store; exact OpR_store' hs rfl rfl rfl) rfl ?_; rintro _ _ ⟨hs, hF⟩)
        | (apply aj_cond; refine J_dec_t rfl (by first | assumption | omega) ?_))
      refine J_leave Tryd.func4 rfl (.tmp rfl .nil) ⟨rfl, hs.frm.ext⟩
    · obtain ⟨W, hW⟩ : ∃ W, W = turnP ys (x1, x2, x3, x4) := ⟨_, rfl⟩
      repeat' (first
        | ((apply aj_block 2; refine J_cutK (γ := Option Addr × Nat × Option Addr × Nat) [(5, _), (8, _), (10, _), (11, _), (19, _), (20, _), (21, _)] (by repeat' (first | exact trivial | exact rfl | apply And.intro)) (fun g => [(12, .int .i64 W.2), (13, .int .i64 W.2)]) (fun g w' => St w NoF w' [Row g.1 W.1.length g.2.1 34 2 (cSp W.1), Row g.2.2.1 W.1.length g.2.2.2 34 2 (cSp W.1), Blk b11 (.cells #[.slice g.2.2.1 W.1.length g.2.2.2] 24 (0, 0)), Blk b10 (.cells #[.slice g.1 W.1.length g.2.1] 24 (0, 0)), Blk b8 (.cells #[.slice aw ys.length cw] 24 (0, 0)), Row aw ys.length cw 34 2 (cSp ys), Blk b5 (.cells #[.slice ar ys.length cr] 24 (0, 0)), Row ar ys.length cr 34 2 (cSp ys)]) (fun R k hcont => hold ?_) (hold ?_)))
        | ((apply al_call 9; refine JL_o (by exact OpR_callF en9 rfl (own_r _ ar ys.length cr ys (RowV.sp (hs.row ar ys.length cr) hok))) rfl rfl ?_; rintro _ _ ⟨aw, cw, rfl, hf⟩; rw [htk] at hf ⊢; have hs := hs.fresh hf; (try simp only [List.cons_append, List.nil_append] at hs)))
        | ((apply al_call 10; refine JL_o (by exact OpR_callF en10 rfl (right10_r _ ar ys.length cr ys (RowV.sp (hs.row ar ys.length cr) hok))) rfl rfl ?_; rintro _ _ ⟨rfl, hE⟩; have hs := hs.ext hE; (try simp only [List.cons_append, List.nil_append] at hs)))
        | (apply JL_nil)
        | ((apply JL_pure); (first
      | (apply as_load; first | exact OpR_load' hs rfl rfl is_rfl | exact OpR_load_agg' hs rfl is_rfl | exact OpR_load_el (hl.st hs) hx rfl rfl is_rfl)
      | (apply as_move; exact OpR_move rfl is_rfl)
      | (apply as_assign; exact OpR_assign rfl is_rfl)
      | (apply as_fieldAddr; exact OpR_fieldAddr0 rfl rfl is_rfl)
      | (apply as_binOp; exact OpR_ibin rfl rfl rfl is_rfl)
      | (apply as_indexAddr; exact OpR_indexAddr rfl rfl (by omega) (by omega) is_rfl)); first | (exact rfl; exact rfl) | exact rfl)
        | (apply J_seq)
        | (apply J_region)
        | (apply J_block)
        | (apply J_skip)
        | (apply al_none (t := 7); refine JL_o (by apply as_alloc; exact OpR_alloc' hs) rfl rfl ?_; rintro _ _ ⟨b7, rfl, hb7, hs, hE⟩)
        | (apply al_none (t := 8); refine JL_o (by apply as_alloc; exact OpR_alloc' hs) rfl rfl ?_; rintro _ _ ⟨b8, rfl, hb8, hs, hE⟩)
        | (apply al_none (t := 10); refine JL_o (by apply as_alloc; exact OpR_alloc' hs) rfl rfl ?_; rintro _ _ ⟨b10, rfl, hb10, hs, hE⟩)
        | (apply al_none (t := 11); refine JL_o (by apply as_alloc; exact OpR_alloc' hs) rfl rfl ?_; rintro _ _ ⟨b11, rfl, hb11, hs, hE⟩)
        | (apply al_unit; refine JL_u (by apply as_store; exact OpR_store' hs rfl rfl rfl) rfl ?_; rintro _ _ ⟨hs, hF⟩)
        | (apply aj_cond; first | refine J_dec_t rfl (by first | assumption | omega) ?_ | refine J_dec_f rfl (by first | assumption | omega) ?_))
      · refine unhold ?_
        by_cases hr : rightB ys = true
        · have hV := rightV_iff.1 hr
          by_cases hx0 : x1 = 0
          · have hx1 := hx0
            have hT : turnP ys (x1, x2, x3, x4) = (doesM ys (putE ys x2 (x3, x4)) (putY ys x2 (x3, x4))) := if_pos hx1
            have hP1 : (doesM ys (putE ys x2 (x3, x4)) (putY ys x2 (x3, x4))).1 = W.1 := by rw [hW, hT]
            have hP2 : (doesM ys (putE ys x2 (x3, x4)) (putY ys x2 (x3, x4))).2 = W.2 := by rw [hW, hT]
            have hQ1 : (putRM ys x2 (x3, x4)).1 = W.1 := by rw [← rput_eq hV x2 (x3, x4)]; exact hP1
            have hQ2 : (putRM ys x2 (x3, x4)).2 = W.2 := by rw [← rput_eq hV x2 (x3, x4)]; exact hP2
            repeat' (first
              | ((apply al_call 21; refine JL_o (by exact OpR_callF en21 rfl (Put_r _ (hG.st hs) ar ys.length cr ys x2 x3 x4 hxo.2.1 (RowV.sp (hs.row ar ys.length cr) hok) (by omega))) rfl rfl ?_; rintro _ _ ⟨ag, cg, rfl, hf⟩; rw [hP1] at hf; rw [hP1, hP2]; have hs := hs.fresh hf; (try simp only [List.cons_append, List.nil_append] at hs)))
              | ((apply al_call 22; refine JL_o (by exact OpR_callF en22 rfl (refPut_r _ aw ys.length cw ys x2 x3 x4 hxo.2.1 (RowV.sp (hs.row aw ys.length cw) hok) (by omega))) rfl rfl ?_; rintro _ _ ⟨aq, cq, rfl, hf⟩; rw [hQ1] at hf; rw [hQ1, hQ2]; have hs := hs.fresh hf; (try simp only [List.cons_append, List.nil_append] at hs)))
              | (apply JL_nil)
              | ((apply JL_pure); (first
      | (apply as_move; exact OpR_move rfl is_rfl)
      | (apply as_assign; exact OpR_assign rfl is_rfl)
      | (apply as_fieldAddr; exact OpR_fieldAddr0 rfl rfl is_rfl)
      | (apply as_load; first | exact OpR_load' hs rfl rfl is_rfl | exact OpR_load_agg' hs rfl is_rfl)
      | (apply as_binOp; exact OpR_ibin rfl rfl rfl is_rfl)
      | (apply as_extract; exact OpR_extract rfl rfl is_rfl)); first | (exact rfl; exact rfl) | exact rfl)
              | (apply J_seq)
              | (apply J_region)
              | (apply J_block)
              | (apply J_inBlock)
              | (apply al_unit; refine JL_u (by apply as_store; exact OpR_store' hs rfl rfl rfl) rfl ?_; rintro _ _ ⟨hs, hF⟩)
              | (apply aj_cond; first | refine J_dec_t rfl (by first | assumption | omega) ?_ | refine J_cond_t rfl (by first | assumption | rfl | exact decide_eq_true (by first | assumption | omega) | exact decide_eq_false (by first | assumption | omega)) ?_))
            refine hcont (ag, cg, aq, cq) _ _ (hs.sel [1, 0, 2, 3, 4, 5, 7, 8] (by decide)) (by repeat' (first | exact trivial | exact rfl | apply And.intro))
          · by_cases hx1 : x1 = 1
            · skip
              have hT : turnP ys (x1, x2, x3, x4) = (doesM ys (dropE ys x2) (dropY ys x2)) := (if_neg hx0).trans (if_pos hx1)
              have hP1 : (doesM ys (dropE ys x2) (dropY ys x2)).1 = W.1 := by rw [hW, hT]
              have hP2 : (doesM ys (dropE ys x2) (dropY ys x2)).2 = W.2 := by rw [hW, hT]
              have hQ1 : (dropRM ys x2).1 = W.1 := by rw [← rdrop_eq hV x2]; exact hP1
              have hQ2 : (dropRM ys x2).2 = W.2 := by rw [← rdrop_eq hV x2]; exact hP2
              repeat' (first
                | ((apply al_call 23; refine JL_o (by exact OpR_callF en23 rfl (Drop_r _ (hG.st hs) ar ys.length cr ys x2 hxo.2.1 (RowV.sp (hs.row ar ys.length cr) hok) (by omega))) rfl rfl ?_; rintro _ _ ⟨ag, cg, rfl, hf⟩; rw [hP1] at hf; rw [hP1, hP2]; have hs := hs.fresh hf; (try simp only [List.cons_append, List.nil_append] at hs)))
                | ((apply al_call 24; refine JL_o (by exact OpR_callF en24 rfl (refDrop_r _ aw ys.length cw ys x2 hxo.2.1 (RowV.sp (hs.row aw ys.length cw) hok) (by omega))) rfl rfl ?_; rintro _ _ ⟨aq, cq, rfl, hf⟩; rw [hQ1] at hf; rw [hQ1, hQ2]; have hs := hs.fresh hf; (try simp only [List.cons_append, List.nil_append] at hs)))
                | (apply JL_nil)
                | ((apply JL_pure); (first
      | (apply as_move; exact OpR_move rfl is_rfl)
      | (apply as_assign; exact OpR_assign rfl is_rfl)
      | (apply as_fieldAddr; exact OpR_fieldAddr0 rfl rfl is_rfl)
      | (apply as_load; first | exact OpR_load' hs rfl rfl is_rfl | exact OpR_load_agg' hs rfl is_rfl)
      | (apply as_binOp; exact OpR_ibin rfl rfl rfl is_rfl)
      | (apply as_extract; exact OpR_extract rfl rfl is_rfl)); first | (exact rfl; exact rfl) | exact rfl)
                | (apply J_seq)
                | (apply J_region)
                | (apply J_block)
                | (apply J_inBlock)
                | (apply al_unit; refine JL_u (by apply as_store; exact OpR_store' hs rfl rfl rfl) rfl ?_; rintro _ _ ⟨hs, hF⟩)
                | (apply aj_cond; first | refine J_dec_t rfl (by first | assumption | omega) ?_ | refine J_dec_f rfl (by first | assumption | omega) ?_ | refine J_cond_t rfl (by first | assumption | rfl | exact decide_eq_true (by first | assumption | omega) | exact decide_eq_false (by first | assumption | omega)) ?_))
              refine hcont (ag, cg, aq, cq) _ _ (hs.sel [1, 0, 2, 3, 4, 5, 7, 8] (by decide)) (by repeat' (first | exact trivial | exact rfl | apply And.intro))
            · skip
              have hT : turnP ys (x1, x2, x3, x4) = (doesM ys (swE ys x2 x4) (swY ys x2 x4)) := (if_neg hx0).trans (if_neg hx1)
              have hP1 : (doesM ys (swE ys x2 x4) (swY ys x2 x4)).1 = W.1 := by rw [hW, hT]
              have hP2 : (doesM ys (swE ys x2 x4) (swY ys x2 x4)).2 = W.2 := by rw [hW, hT]
              have hQ1 : (swapRM ys x2 x4).1 = W.1 := by rw [← rswap_eq hV x2 x4]; exact hP1
              have hQ2 : (swapRM ys x2 x4).2 = W.2 := by rw [← rswap_eq hV x2 x4]; exact hP2
              repeat' (first
                | ((apply al_call 25; refine JL_o (by exact OpR_callF en25 rfl (Swap_r _ (hG.st hs) ar ys.length cr ys x2 x4 hxo.2.1 hxo.2.2.2 (RowV.sp (hs.row ar ys.length cr) hok) (by omega))) rfl rfl ?_; rintro _ _ ⟨ag, cg, rfl, hf⟩; rw [hP1] at hf; rw [hP1, hP2]; have hs := hs.fresh hf; (try simp only [List.cons_append, List.nil_append] at hs)))
                | ((apply al_call 26; refine JL_o (by exact OpR_callF en26 rfl (refSwap_r _ aw ys.length cw ys x2 x4 hxo.2.1 hxo.2.2.2 (RowV.sp (hs.row aw ys.length cw) hok) (by omega))) rfl rfl ?_; rintro _ _ ⟨aq, cq, rfl, hf⟩; rw [hQ1] at hf; rw [hQ1, hQ2]; have hs := hs.fresh hf; (try simp only [List.cons_append, List.nil_append] at hs)))
                | (apply JL_nil)
                | ((apply JL_pure); (first
      | (apply as_move; exact OpR_move rfl is_rfl)
      | (apply as_assign; exact OpR_assign rfl is_rfl)
      | (apply as_fieldAddr; first | exact OpR_fieldAddr0 rfl rfl is_rfl | exact OpR_fieldAddr rfl rfl is_rfl)
      | (apply as_load; first | exact OpR_load' hs rfl rfl is_rfl | exact OpR_load_agg' hs rfl is_rfl)
      | (apply as_binOp; exact OpR_ibin rfl rfl rfl is_rfl)
      | (apply as_extract; exact OpR_extract rfl rfl is_rfl)); first | (exact rfl; exact rfl) | exact rfl)
                | (apply J_seq)
                | (apply J_region)
                | (apply J_block)
                | (apply J_inBlock)
                | (apply al_unit; refine JL_u (by apply as_store; exact OpR_store' hs rfl rfl rfl) rfl ?_; rintro _ _ ⟨hs, hF⟩)
                | (apply aj_cond; first | refine J_dec_f rfl (by first | assumption | omega) ?_ | refine J_cond_t rfl (by first | assumption | rfl | exact decide_eq_true (by first | assumption | omega) | exact decide_eq_false (by first | assumption | omega)) ?_))
              refine hcont (ag, cg, aq, cq) _ _ (hs.sel [1, 0, 2, 3, 4, 5, 7, 8] (by decide)) (by repeat' (first | exact trivial | exact rfl | apply And.intro))
        · have hr : rightB ys = false := by simpa using hr
          have hW0 : W = ([], 200) := by rw [hW]; exact turn_no hr _
          by_cases hx0 : x1 = 0
          · have hx1 := hx0
            have hT : turnP ys (x1, x2, x3, x4) = (doesM ys (putE ys x2 (x3, x4)) (putY ys x2 (x3, x4))) := if_pos hx1
            have hP1 : (doesM ys (putE ys x2 (x3, x4)) (putY ys x2 (x3, x4))).1 = W.1 := by rw [hW, hT]
            have hP2 : (doesM ys (putE ys x2 (x3, x4)) (putY ys x2 (x3, x4))).2 = W.2 := by rw [hW, hT]
            repeat' (first
              | ((apply al_call 21; refine JL_o (by exact OpR_callF en21 rfl (Put_r _ (hG.st hs) ar ys.length cr ys x2 x3 x4 hxo.2.1 (RowV.sp (hs.row ar ys.length cr) hok) (by omega))) rfl rfl ?_; rintro _ _ ⟨ag, cg, rfl, hf⟩; rw [hP1] at hf; rw [hP1, hP2]; have hs := hs.fresh hf; (try simp only [List.cons_append, List.nil_append] at hs)))
              | (apply JL_nil)
              | ((apply JL_pure); (first
      | (apply as_move; exact OpR_move rfl is_rfl)
      | (apply as_assign; exact OpR_assign rfl is_rfl)
      | (apply as_fieldAddr; exact OpR_fieldAddr0 rfl rfl is_rfl)
      | (apply as_load; first | exact OpR_load' hs rfl rfl is_rfl | exact OpR_load_agg' hs rfl is_rfl)
      | (apply as_binOp; exact OpR_ibin rfl rfl rfl is_rfl)
      | (apply as_extract; exact OpR_extract rfl rfl is_rfl)); first | (exact rfl; exact rfl) | exact rfl)
              | (apply J_seq)
              | (apply J_region)
              | (apply J_block)
              | (apply J_inBlock)
              | (apply J_skip)
              | (apply al_unit; refine JL_u (by apply as_store; exact OpR_store' hs rfl rfl rfl) rfl ?_; rintro _ _ ⟨hs, hF⟩)
              | (apply aj_cond; first | refine J_dec_t rfl (by first | assumption | omega) ?_ | refine J_cond_f rfl (by first | assumption | rfl | exact decide_eq_true (by first | assumption | omega) | exact decide_eq_false (by first | assumption | omega)) ?_))
            have hs := hs.nilRow 34 2
            rw [hW0] at hs
            refine hcont (ag, cg, none, 0) _ _ (by rw [hW0]; exact hs.sel [1, 0, 2, 3, 4, 5, 7, 8] (by decide)) (by rw [hW0]; repeat' (first | exact trivial | exact rfl | apply And.intro))
          · by_cases hx1 : x1 = 1
            · skip
              have hT : turnP ys (x1, x2, x3, x4) = (doesM ys (dropE ys x2) (dropY ys x2)) := (if_neg hx0).trans (if_pos hx1)
              have hP1 : (doesM ys (dropE ys x2) (dropY ys x2)).1 = W.1 := by rw [hW, hT]
              have hP2 : (doesM ys (dropE ys x2) (dropY ys x2)).2 = W.2 := by rw [hW, hT]
              repeat' (first
                | ((apply al_call 23; refine JL_o (by exact OpR_callF en23 rfl (Drop_r _ (hG.st hs) ar ys.length cr ys x2 hxo.2.1 (RowV.sp (hs.row ar ys.length cr) hok) (by omega))) rfl rfl ?_; rintro _ _ ⟨ag, cg, rfl, hf⟩; rw [hP1] at hf; rw [hP1, hP2]; have hs := hs.fresh hf; (try simp only [List.cons_append, List.nil_append] at hs)))
                | (apply JL_nil)
                | ((apply JL_pure); (first
      | (apply as_move; exact OpR_move rfl is_rfl)
      | (apply as_assign; exact OpR_assign rfl is_rfl)
      | (apply as_fieldAddr; exact OpR_fieldAddr0 rfl rfl is_rfl)
      | (apply as_load; first | exact OpR_load' hs rfl rfl is_rfl | exact OpR_load_agg' hs rfl is_rfl)
      | (apply as_binOp; exact OpR_ibin rfl rfl rfl is_rfl)
      | (apply as_extract; exact OpR_extract rfl rfl is_rfl)); first | (exact rfl; exact rfl) | exact rfl)
                | (apply J_seq)
                | (apply J_region)
                | (apply J_block)
                | (apply J_inBlock)
                | (apply J_skip)
                | (apply al_unit; refine JL_u (by apply as_store; exact OpR_store' hs rfl rfl rfl) rfl ?_; rintro _ _ ⟨hs, hF⟩)
                | (apply aj_cond; first | refine J_dec_t rfl (by first | assumption | omega) ?_ | refine J_dec_f rfl (by first | assumption | omega) ?_ | refine J_cond_f rfl (by first | assumption | rfl | exact decide_eq_true (by first | assumption | omega) | exact decide_eq_false (by first | assumption | omega)) ?_))
              have hs := hs.nilRow 34 2
              rw [hW0] at hs
              refine hcont (ag, cg, none, 0) _ _ (by rw [hW0]; exact hs.sel [1, 0, 2, 3, 4, 5, 7, 8] (by decide)) (by rw [hW0]; repeat' (first | exact trivial | exact rfl | apply And.intro))
            · skip
              have hT : turnP ys (x1, x2, x3, x4) = (doesM ys (swE ys x2 x4) (swY ys x2 x4)) := (if_neg hx0).trans (if_neg hx1)
              have hP1 : (doesM ys (swE ys x2 x4) (swY ys x2 x4)).1 = W.1 := by rw [hW, hT]
              have hP2 : (doesM ys (swE ys x2 x4) (swY ys x2 x4)).2 = W.2 := by rw [hW, hT]
              repeat' (first
                | ((apply al_call 25; refine JL_o (by exact OpR_callF en25 rfl (Swap_r _ (hG.st hs) ar ys.length cr ys x2 x4 hxo.2.1 hxo.2.2.2 (RowV.sp (hs.row ar ys.length cr) hok) (by omega))) rfl rfl ?_; rintro _ _ ⟨ag, cg, rfl, hf⟩; rw [hP1] at hf; rw [hP1, hP2]; have hs := hs.fresh hf; (try simp only [List.cons_append, List.nil_append] at hs)))
                | (apply JL_nil)
                | ((apply JL_pure); (first
      | (apply as_move; exact OpR_move rfl is_rfl)
      | (apply as_assign; exact OpR_assign rfl is_rfl)
      | (apply as_fieldAddr; first | exact OpR_fieldAddr0 rfl rfl is_rfl | exact OpR_fieldAddr rfl rfl is_rfl)
      | (apply as_load; first | exact OpR_load' hs rfl rfl is_rfl | exact OpR_load_agg' hs rfl is_rfl)
      | (apply as_binOp; exact OpR_ibin rfl rfl rfl is_rfl)
      | (apply as_extract; exact OpR_extract rfl rfl is_rfl)); first | (exact rfl; exact rfl) | exact rfl)
                | (apply J_seq)
                | (apply J_region)
                | (apply J_block)
                | (apply J_inBlock)
                | (apply J_skip)
                | (apply al_unit; refine JL_u (by apply as_store; exact OpR_store' hs rfl rfl rfl) rfl ?_; rintro _ _ ⟨hs, hF⟩)
                | (apply aj_cond; first | refine J_dec_f rfl (by first | assumption | omega) ?_ | refine J_cond_f rfl (by first | assumption | rfl | exact decide_eq_true (by first | assumption | omega) | exact decide_eq_false (by first | assumption | omega)) ?_))
              have hs := hs.nilRow 34 2
              rw [hW0] at hs
              refine hcont (ag, cg, none, 0) _ _ (by rw [hW0]; exact hs.sel [1, 0, 2, 3, 4, 5, 7, 8] (by decide)) (by rw [hW0]; repeat' (first | exact trivial | exact rfl | apply And.intro))
      · refine unhold ?_
        rintro ⟨ag, cg, aq, cq⟩ w2 hs2
        dsimp only at hs2 ⊢
        have hs : St w NoF w2 [_, _, _, _, _, _, _, _] := hs2
        have hWok : ∀ s ∈ W.1, okS s := by rw [hW]; exact turn_ok hok (t := (x1, x2, x3, x4)) ⟨hxo.2.2.1, hxo.2.2.2⟩
        by_cases hbig : 2000 < W.1.length
        · repeat' (first
            | (apply JL_nil)
            | ((apply JL_pure); (first
      | (apply as_assign; exact OpR_assign rfl is_rfl)
      | (apply as_fieldAddr; exact OpR_fieldAddr0 rfl rfl is_rfl)
      | (apply as_load; exact OpR_load' hs rfl rfl is_rfl)
      | (apply as_binOp; exact OpR_ibin rfl rfl rfl is_rfl)
      | (apply as_b_len; exact OpR_len rfl is_rfl)); first | (exact rfl; exact rfl) | exact rfl)
            | (apply J_seq)
            | (apply J_region)
            | (apply aj_cond; refine J_dec_t rfl (by first | assumption | omega) ?_))
          refine J_leave Tryd.func4 rfl (.tmp rfl .nil) ⟨rfl, hs.frm.ext⟩
        · have e8 : decide (W.1 = W.1) = true := by simp
          have e9 : decide (ys = ys) = true := by simp
          repeat' (first
            | ((apply al_callg 13; refine JL_o_on rfl (by first | assumption | rfl | exact decide_eq_true (by first | assumption | omega) | exact decide_eq_false (by first | assumption | omega)) (by exact OpR_callF en13 rfl (same13_r _ ag aq W.1.length cg W.1.length cq W.1 W.1 (RowV.sp (hs.row ag W.1.length cg) hWok) (RowV.sp (hs.row aq W.1.length cq) hWok))) rfl rfl ?_; rintro _ _ ⟨rfl, hE⟩; rw [e8]; have hs := hs.ext hE; (try simp only [List.cons_append, List.nil_append] at hs)))
            | (apply JL_nil)
            | ((first | (apply JL_pure) | (apply JL_pure_on; exact rfl; (first | assumption | exact rfl | exact decide_eq_true (by first | assumption | omega) | exact decide_eq_false (by first | assumption | omega)))); (first
      | (apply as_move; exact OpR_move rfl is_rfl)
      | (apply as_fieldAddr; exact OpR_fieldAddr0 rfl rfl is_rfl)
      | (apply as_load; first | exact OpR_load' hs rfl rfl is_rfl | exact OpR_load_agg' hs rfl is_rfl)
      | (apply as_binOp; exact OpR_ibin rfl rfl rfl is_rfl)
      | (apply as_unOp; exact OpR_not rfl is_rfl)
      | (apply as_pick; exact OpR_pick_f rfl (by first | assumption | rfl | exact decide_eq_true (by first | assumption | omega) | exact decide_eq_false (by first | assumption | omega)) rfl is_rfl)
      | (apply as_b_len; exact OpR_len rfl is_rfl)); first | (exact rfl; exact rfl) | exact rfl)
            | (apply J_seq)
            | (apply J_region)
            | (apply J_block)
            | (apply J_skip)
            | (apply aj_cond; first | refine J_dec_f rfl (by first | assumption | omega) ?_ | refine J_cond_f rfl (by first | assumption | rfl | exact decide_eq_true (by first | assumption | omega) | exact decide_eq_false (by first | assumption | omega)) ?_))
          refine J_loopK (α := Nat × List Sp) [(5, _), (8, _), (10, _), (11, _), (12, _), (19, _), (20, _), (21, _), (108, _)] (fun g => [(109, .int .i64 g.1)]) (fun g w' => St w NoF w' [Row ag W.1.length cg 34 2 (cSp g.2), Row aq W.1.length cq 34 2 (cSp W.1), Blk b11 (.cells #[.slice aq W.1.length cq] 24 (0, 0)), Blk b10 (.cells #[.slice ag W.1.length cg] 24 (0, 0)), Blk b8 (.cells #[.slice aw ys.length cw] 24 (0, 0)), Row aw ys.length cw 34 2 (cSp ys), Blk b5 (.cells #[.slice ar ys.length cr] 24 (0, 0)), Row ar ys.length cr 34 2 (cSp ys)] ∧ g.2.length = W.1.length ∧ g.1 ≤ W.1.length) (fun g => W.1.length - g.1) (0, W.1) ⟨hs, rfl, by dsimp only; omega⟩ (by repeat' (first | exact trivial | exact rfl | apply And.intro)) ?_
          rintro ⟨m, gs⟩ w3 ⟨hs3, hgl, hm⟩ ih2
          dsimp only at hs3 hgl hm ih2 ⊢
          have hs : St w NoF w3 [_, _, _, _, _, _, _, _] := hs3
          by_cases hlt2 : m < W.1.length
          · obtain ⟨pg, og, rfl⟩ := (hs.row ag W.1.length cg).some (by omega)
            have hy : gs[m]? = some gs[m] := List.getElem?_eq_getElem (by omega)
            obtain ⟨y, hyd⟩ : ∃ y, y = gs[m] := ⟨_, rfl⟩
            rw [← hyd] at hy
            have hcy : (cSp gs)[((m : Nat) : Int).toNat * 2 + 1]? = some (.int .i64 y.2) := by rw [Int.toNat_natCast]; exact encL_get (d := dSp) gs m 1 y hy (by decide)
            have hset : ∀ v, splice (cSp gs) (((m : Nat) : Int).toNat * 2 + 1) [.int .i64 v] = cSp (gs.set m (y.1, v)) := fun v => by rw [Int.toNat_natCast]; exact cSp_set2 hy v
            repeat' (first
              | ((apply al_unit; refine JL_u (by apply as_store; exact OpR_storeN (b := pg) (o := og) (off := ((m : Nat) : Int).toNat * 2 + 1) (n := W.1.length) (c := cg) (vs := [.int .i64 _]) hs rfl rfl rfl rfl (by simp [Value.oneCell']) (by show ((m : Nat) : Int).toNat * 2 + 1 + 1 ≤ W.1.length * 2; omega)) rfl ?_; rintro _ _ ⟨hs, hF⟩; rw [hset] at hs))
              | (apply JL_nil)
              | ((apply JL_pure); (first
      | (apply as_load; first | exact OpR_load' hs rfl rfl is_rfl | exact OpR_load_agg' hs rfl is_rfl | exact OpR_load1N (b := pg) (o := og) (off := ((m : Nat) : Int).toNat * 2 + 1) (n := W.1.length) (c := cg) hs rfl hcy is_rfl)
      | (apply as_move; exact OpR_move rfl is_rfl)
      | (apply as_assign; exact OpR_assign rfl is_rfl)
      | (apply as_fieldAddr; first | exact OpR_fieldAddr0 rfl rfl is_rfl | exact OpR_fieldAddr rfl rfl is_rfl)
      | (apply as_add; first | exact OpR_addn rfl rfl (by omega) (by first | (simp only [Int.reduceAdd]; exact rfl) | exact rfl) is_rfl | exact OpR_ibin rfl rfl rfl is_rfl)
      | (apply as_binOp; exact OpR_ibin rfl rfl rfl is_rfl)
      | (apply as_indexAddr; exact OpR_indexAddr rfl rfl (by omega) (by omega) is_rfl)); first | (exact rfl; exact rfl) | exact rfl)
              | (apply J_seq)
              | (apply J_region)
              | (apply J_block)
              | (apply J_inBlock)
              | (apply J_skip)
              | (apply aj_cond; refine J_dec_t rfl (by first | assumption | omega) ?_))
            refine ih2 (m + 1, gs.set m (y.1, _)) _ _ ⟨hs, by simpa using hgl, by dsimp only; omega⟩ (by dsimp only; omega) (by repeat' (first | exact trivial | exact rfl | apply And.intro))
          · by_cases he : W.2 = 0
            · have h40 : (W.1.take 40).length ≤ 40 := by simp; omega
              repeat' (first
                | ((apply al_call 13; refine JL_o (by exact OpR_callF en13 rfl (same13_r _ ar aw ys.length cr ys.length cw ys ys (RowV.sp (hs.row ar ys.length cr) hok) (RowV.sp (hs.row aw ys.length cw) hok))) rfl rfl ?_; rintro _ _ ⟨rfl, hE⟩; rw [e9]; have hs := hs.ext hE; (try simp only [List.cons_append, List.nil_append] at hs)))
                | ((apply al_call 9; refine JL_o (by exact OpR_callF en9 rfl (own_r _ aq W.1.length cq W.1 (RowV.sp (hs.row aq W.1.length cq) hWok))) rfl rfl ?_; rintro _ _ ⟨az, cz, rfl, hf⟩; have hs := hs.fresh hf; (try simp only [List.cons_append, List.nil_append] at hs)))
                | (apply JL_nil)
                | ((apply JL_pure); (first
      | (apply as_move; exact OpR_move rfl is_rfl)
      | (apply as_load; exact OpR_load_agg' hs rfl is_rfl)
      | (apply as_add; exact OpR_addn rfl rfl (by omega) (by first | (simp only [Int.reduceAdd]; exact rfl) | exact rfl) is_rfl)
      | (apply as_binOp; exact OpR_ibin rfl rfl rfl is_rfl)
      | (apply as_unOp; exact OpR_not rfl is_rfl)); first | (exact rfl; exact rfl) | exact rfl)
                | (apply J_seq)
                | (apply J_region)
                | (apply J_inBlock)
                | (apply aj_exit; refine J_exit rfl ?_)
                | (apply J_skip)
                | (apply al_unit; refine JL_u (by apply as_store; exact OpR_store' hs rfl rfl rfl) rfl ?_; rintro _ _ ⟨hs, hF⟩)
                | (apply aj_cond; first | refine J_dec_t rfl (by first | assumption | omega) ?_ | refine J_dec_f rfl (by first | assumption | omega) ?_ | refine J_cond_f rfl (by first | assumption | rfl | exact decide_eq_true (by first | assumption | omega) | exact decide_eq_false (by first | assumption | omega)) ?_))
              refine ih (k + 1, W.1.take 40, az, cz) _ _ ⟨hs.sel [7, 0] (by decide), h40, fun s hs => hWok s (List.mem_of_mem_take hs), by dsimp only; omega⟩ (by dsimp only; omega) (by repeat' (first | exact trivial | exact rfl | apply And.intro))
            · repeat' (first
                | ((apply al_call 13; refine JL_o (by exact OpR_callF en13 rfl (same13_r _ ar aw ys.length cr ys.length cw ys ys (RowV.sp (hs.row ar ys.length cr) hok) (RowV.sp (hs.row aw ys.length cw) hok))) rfl rfl ?_; rintro _ _ ⟨rfl, hE⟩; rw [e9]; have hs := hs.ext hE; (try simp only [List.cons_append, List.nil_append] at hs)))
                | (apply JL_nil)
                | ((apply JL_pure); (first
      | (apply as_move; exact OpR_move rfl is_rfl)
      | (apply as_load; exact OpR_load_agg' hs rfl is_rfl)
      | (apply as_add; exact OpR_addn rfl rfl (by omega) (by first | (simp only [Int.reduceAdd]; exact rfl) | exact rfl) is_rfl)
      | (apply as_binOp; exact OpR_ibin rfl rfl rfl is_rfl)
      | (apply as_unOp; exact OpR_not rfl is_rfl)); first | (exact rfl; exact rfl) | exact rfl)
                | (apply J_seq)
                | (apply J_region)
                | (apply J_inBlock)
                | (apply aj_exit; refine J_exit rfl ?_)
                | (apply J_skip)
                | (apply aj_cond; first | refine J_dec_f rfl (by first | assumption | omega) ?_ | refine J_cond_f rfl (by first | assumption | rfl | exact decide_eq_true (by first | assumption | omega) | exact decide_eq_false (by first | assumption | omega)) ?_))
              refine ih (k + 1, ys, ar, cr) _ _ ⟨hs.sel [6, 7] (by decide), hyl, hok, by dsimp only; omega⟩ (by dsimp only; omega) (by repeat' (first | exact trivial | exact rfl | apply And.intro))
  · repeat' (first
      | (apply JL_nil)
      | ((apply JL_pure); (first
      | (apply as_assign; exact OpR_assign rfl is_rfl)
      | (apply as_binOp; exact OpR_ibin rfl rfl rfl is_rfl)); first | (exact rfl; exact rfl) | exact rfl)
      | (apply J_seq)
      | (apply J_region)
      | (apply aj_exit; refine J_exit rfl ?_)
      | (apply aj_cond; refine J_dec_f rfl (by first | assumption | omega) ?_))
    refine J_leave Tryd.func4 rfl (.tmp rfl .nil) ⟨rfl, hs.frm.ext⟩
end Go.Eng
