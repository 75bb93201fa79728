/- The texts K30, joined. -/
import Derived.Test.YtcoldgkhlkjjmaaGreatX8
/- Referrers: ReferRetypes. -/
namespace Go.Eng
open Go.Proofs
set_option linter.unusedSimpArgs false
set_option linter.unusedVariables false
theorem ownL_ok' {w : World} {a : Option Addr} {n c : Nat} {l : List RH} (h : Sl dRef All w a n c l) : ∀ r ∈ ownL l, inK .i64 r.1 ∧ ∀ x ∈ r.2, okH x := fun r hr => by
  unfold ownL at hr
  obtain ⟨q, hq, rfl⟩ := List.mem_map.1 hr
  have := sl_okR h q (List.mem_of_mem_take hq)
  exact ⟨this.1, fun x hx => this.2 x (List.mem_of_mem_take hx)⟩
theorem slNil (w : World) : Sl dHeld All w none 0 0 [] := slH ((St.init w).nilRow 31 2) (.head _) (fun x hx => by cases hx)
theorem slU {w0 w : World} {F : Nat → Prop} {L : List HP} {a : Option Addr} {n c : Nat} {xs : List Int} (hs : St w0 F w L) (hm : RowU a n c xs ∈ L) (hok : ∀ x ∈ xs, okId x) : Sl dId All w a n c xs :=
  (RowV.slF (d := dId) (hs.all _ hm) (by decide) hok).weak (fun _ _ => trivial)
/-- The referrers, and what the document holds of them so far. -/
def RelM (s : List RH × Int) (A : List HH) (no : Int) : Prop := no = s.2 ∧ (s.2 = 0 → rightH s.1 = true ∧ allH s.1 = A)
theorem pairs_succ {a b : List Int} {k : Nat} {i : Int} (h : a[k]? = some i) : pairsM (a.take (k + 1)) b = pairsM (a.take k) b ++ if kindM i = 3 ∧ i ∉ b then [i] else [] := by
  unfold pairsM
  rw [List.take_add_one, h, List.filter_append]
  congr 1
  by_cases c : kindM i = 3 ∧ i ∉ b
  · rw [if_pos c]; simp [c.1, c.2]
  · rw [if_neg c]
    by_cases c1 : kindM i = 3
    · have c2 : i ∈ b := Decidable.by_contra fun h => c ⟨c1, h⟩
      simp [c2]
    · simp [c1]
theorem run_skip {op : Bool} {x : Int} {s : List RH × Int} {a b : List Int} {k : Nat} {i : Int} (h : a[k]? = some i) (c : ¬ (kindM i = 3 ∧ i ∉ b)) : runM op x s (pairsM (a.take (k + 1)) b) = runM op x s (pairsM (a.take k) b) := by
  rw [pairs_succ h, if_neg c, List.append_nil]
theorem run_do {op : Bool} {x : Int} {s : List RH × Int} {a b : List Int} {k : Nat} {i : Int} (h : a[k]? = some i) (c : kindM i = 3 ∧ i ∉ b) : runM op x s (pairsM (a.take (k + 1)) b) = stepM op (runM op x s (pairsM (a.take k) b)) (x, i) := by
  rw [pairs_succ h, if_pos c, runM_app]; rfl
theorem run_stay {op : Bool} {x : Int} {s : List RH × Int} {a b : List Int} {k : Nat} {i : Int} (h : a[k]? = some i) (c : (runM op x s (pairsM (a.take k) b)).2 ≠ 0) : runM op x s (pairsM (a.take (k + 1)) b) = runM op x s (pairsM (a.take k) b) := by
  rw [pairs_succ h, runM_app, runM_bad c]
theorem rel_drop {s : List RH × Int} {A : List HH} {h : HH} (hr : RelM s A 0) (hm : mayH h = true) (hin : h ∈ A) : RelM (stepM false s h) (withoutH A h) 0 := by
  obtain ⟨L, e⟩ := s
  obtain ⟨h1, h2⟩ := hr
  dsimp only at h1 h2
  subst h1
  obtain ⟨hR, hA⟩ := h2 rfl
  have hp : dropC L h = 0 := by unfold dropC; rw [if_pos hR, if_pos hm, hA, if_pos hin]
  rw [stepD_of hp, hA]
  obtain ⟨i1, i2⟩ := drop_right hp
  rw [hA] at i1 i2
  exact ⟨rfl, fun _ => ⟨i1, i2⟩⟩
theorem rel_dropno {s : List RH × Int} {A : List HH} {h : HH} (hr : RelM s A 0) (hm : mayH h = true) (hin : h ∉ A) : RelM (stepM false s h) (withoutH A h) 4 := by
  obtain ⟨L, e⟩ := s
  obtain ⟨h1, h2⟩ := hr
  dsimp only at h1 h2
  subst h1
  obtain ⟨hR, hA⟩ := h2 rfl
  have hp : dropC L h = 4 := by unfold dropC; rw [if_pos hR, if_pos hm, hA, if_neg hin]
  have e : stepM false (L, 0) h = ([], 4) := by
    unfold stepM
    rw [if_pos rfl, if_neg (by decide)]
    show (if dropC L h = 0 then _ else ([], dropC L h)) = _
    rw [hp, if_neg (by decide)]
  rw [e]
  exact ⟨rfl, fun h => absurd h (by decide)⟩
theorem rel_put {s : List RH × Int} {A : List HH} {h : HH} (hr : RelM s A 0) (hm : mayH h = true) (hin : h ∉ A) (hl : A.length < 20000) : RelM (stepM true s h) (withH A h) 0 := by
  obtain ⟨L, e⟩ := s
  obtain ⟨h1, h2⟩ := hr
  dsimp only at h1 h2
  subst h1
  obtain ⟨hR, hA⟩ := h2 rfl
  have hp : putC L h = 0 := by unfold putC; rw [if_pos hR, if_pos hm, hA, if_neg hin, if_neg (by omega)]
  rw [stepP_of hp, hA]
  obtain ⟨i1, i2⟩ := put_right hp
  rw [hA] at i1 i2
  exact ⟨rfl, fun _ => ⟨i1, i2⟩⟩
theorem rel_putno {s : List RH × Int} {A : List HH} {h : HH} (hr : RelM s A 0) (hm : mayH h = true) (hin : h ∈ A) : RelM (stepM true s h) (withH A h) 5 := by
  obtain ⟨L, e⟩ := s
  obtain ⟨h1, h2⟩ := hr
  dsimp only at h1 h2
  subst h1
  obtain ⟨hR, hA⟩ := h2 rfl
  have hp : putC L h = 5 := by unfold putC; rw [if_pos hR, if_pos hm, hA, if_pos hin]
  have e : stepM true (L, 0) h = ([], 5) := by
    unfold stepM
    rw [if_pos rfl, if_pos rfl]
    show (if putC L h = 0 then _ else ([], putC L h)) = _
    rw [hp, if_neg (by decide)]
  rw [e]
  exact ⟨rfl, fun h => absurd h (by decide)⟩
attribute [local irreducible] Hold J JL JD JX JXat OpR OpG Ret RetV Is Blk Row MapC
set_option maxRecDepth 100000
set_option maxHeartbeats 2000000
theorem hasId_r (w : World) (a : Option Addr) (n c : Nat) (xs : List Int) (x : Int) (h : Sl dId All w a n c xs) :
    Ret Tryz.prog 29 #[.slice a n c, .int .u64 x] w fun v w' => v = .bool (decide (x ∈ xs)) ∧ Ext w w' := by
  refine Ret_of (l := [_, _]) Tryz.func29 rfl Tryz.ntmps29 (by simp) ?_
  have hs := St.init w
  have hl := h.len
  have hmx : n ≤ 9223372036854775807 := by have h3 := h.le; have h4 := h.cap; unfold maxLen at h4; omega
  repeat' (first
    | (apply JL_nil)
    | ((apply JL_pure); (first
      | (apply as_move; exact OpR_move rfl is_rfl)
      | (apply as_assign; exact OpR_assign rfl is_rfl)
      | (apply as_b_len; exact OpR_len rfl is_rfl)); first | (exact rfl; exact rfl) | exact rfl)
    | (apply J_seq)
    | (apply J_region)
    | (apply J_block))
  refine J_loopK (α := Nat) [(1, _), (7, _), (8, _)] (fun k => [(9, .int .i64 k)]) (fun k w' => St w NoF w' [] ∧ k ≤ n ∧ x ∉ xs.take k) (fun k => n - k) 0 ⟨hs, Nat.zero_le _, (by simp)⟩ (by repeat' (first | exact trivial | exact rfl | apply And.intro)) ?_
  rintro k w2 ⟨hs1, hk, hno⟩ ih
  have hs : St w NoF w2 [] := hs1
  by_cases hlt : k < n
  · obtain ⟨p, o, rfl⟩ := h.sl.addr (by omega)
    have hs : St w NoF w2 [] := hs1
    have hx : xs[k]? = some (xs[k]'(by omega)) := List.getElem?_eq_getElem (by omega)
    obtain ⟨y, hyd⟩ : ∃ y, y = xs[k]'(by omega) := ⟨_, rfl⟩
    rw [← hyd] at hx
    by_cases hc : y = x
    · repeat' (first
        | (apply JL_nil)
        | ((apply JL_pure); (first
      | (apply as_load; exact OpR_load_el1 (i := k) (j := 0) (h.st hs) hx rfl rfl rfl is_rfl)
      | (apply as_move; exact OpR_move rfl is_rfl)
      | (apply as_assign; exact OpR_assign rfl is_rfl)
      | (apply as_binOp; exact OpR_ibin rfl rfl rfl is_rfl)
      | (apply as_indexAddr; exact OpR_indexAddr rfl rfl (by omega) (by omega) is_rfl)); first | (exact rfl; exact rfl) | exact rfl)
        | (apply J_seq)
        | (apply J_region)
        | (apply J_block)
        | (apply J_skip)
        | (apply aj_cond; refine J_dec_t rfl ob ?_))
      refine J_leave Tryz.func29 rfl (.tmp rfl .nil) ⟨congrArg Value.bool (decide_eq_true (hc ▸ List.mem_of_getElem? hx)).symm, hs.frm.ext⟩
    · repeat' (first
        | (apply JL_nil)
        | ((apply JL_pure); (first
      | (apply as_load; exact OpR_load_el1 (i := k) (j := 0) (h.st hs) hx rfl rfl rfl is_rfl)
      | (apply as_move; exact OpR_move rfl is_rfl)
      | (apply as_assign; exact OpR_assign rfl is_rfl)
      | (apply as_add; exact OpR_addn rfl rfl (by omega) (by first | (simp only [Int.reduceAdd]; exact rfl) | exact rfl) is_rfl)
      | (apply as_binOp; exact OpR_ibin rfl rfl rfl is_rfl)
      | (apply as_indexAddr; exact OpR_indexAddr rfl rfl (by omega) (by omega) is_rfl)); first | (exact rfl; exact rfl) | exact rfl)
        | (apply J_seq)
        | (apply J_region)
        | (apply J_block)
        | (apply J_inBlock)
        | (apply J_skip)
        | (apply aj_cond; first | refine J_dec_t rfl ob ?_ | refine J_dec_f rfl ob ?_))
      refine ih (k + 1) _ _ ⟨hs, hlt, fun hm => ?_⟩ (by omega) (by repeat' (first | exact trivial | exact rfl | apply And.intro))
      rw [List.take_add_one, hx] at hm
      rcases List.mem_append.1 hm with e | e
      · exact hno e
      · have e2 : x = y := by simpa using e
        exact hc e2.symm
  · rw [List.take_of_length_le (by omega)] at hno
    repeat' (first
      | (apply JL_nil)
      | ((apply JL_pure); (first
      | (apply as_assign; exact OpR_assign rfl is_rfl)
      | (apply as_binOp; exact OpR_ibin rfl rfl rfl is_rfl)); first | (exact rfl; exact rfl) | exact rfl)
      | (apply J_seq)
      | (apply J_region)
      | (apply aj_exit; refine J_exit rfl ?_)
      | (apply aj_cond; refine J_dec_f rfl ob ?_))
    refine J_leave Tryz.func29 rfl (.tmp rfl .nil) ⟨congrArg Value.bool (decide_eq_false hno).symm, hs.frm.ext⟩
theorem referRetypes_w (w : World) (a : Option Addr) (n c : Nat) (l : List RH) (x : Int) (a1 : Option Addr) (n1 c1 : Nat) (p1 : List Int) (a2 : Option Addr) (n2 c2 : Nat) (p2 : List Int)
    (hl : Sl dRef All w a n c l) (hx : inK .i64 x) (h1 : Sl dId All w a1 n1 c1 p1) (h2 : Sl dId All w a2 n2 c2 p2) :
    Ret Tryz.prog 4 #[.slice a n c, .int .i64 x, .agg #[.slice a1 n1 c1, .slice a2 n2 c2]] w fun v w' => v = .bool true ∧ Ext w w' := by
  refine Ret_of (l := [_, _, _]) Tryz.func4 rfl Tryz.ntmps4 (by simp) ?_
  have hs := St.init w
  obtain ⟨E, hE0⟩ : ∃ E, E = ownL l := ⟨_, rfl⟩
  have hEl : E.length ≤ 30 := by rw [hE0]; exact ownL_len l
  have hEt : tot E ≤ 1800 := by rw [hE0]; exact ownL_tot l
  obtain ⟨q1, hq1⟩ : ∃ q, q = min n1 14 := ⟨_, rfl⟩
  obtain ⟨q2, hq2⟩ : ∃ q, q = min n2 14 := ⟨_, rfl⟩
  have hm1 := h1.len
  have hm2 := h2.len
  have hmc1 := h1.le
  have hmc2 := h2.le
  have hcp1 := h1.cap
  have hcp2 := h2.cap
  unfold maxLen at hcp1 hcp2
  have g1 := h1.cutR q1 (by omega)
  have g2 := h2.cutR q2 (by omega)
  obtain ⟨was, hwas⟩ : ∃ t, t = p1.take q1 := ⟨_, rfl⟩
  obtain ⟨is_, his⟩ : ∃ t, t = p2.take q2 := ⟨_, rfl⟩
  rw [← hwas] at g1
  rw [← his] at g2
  have gl1 := g1.len
  have gl2 := g2.len
  have hwo : ∀ i ∈ was, okId i := fun i hi => by
    obtain ⟨k, hk⟩ := List.mem_iff_getElem?.1 hi
    exact (g1.elF hk).1
  have hio : ∀ i ∈ is_, okId i := fun i hi => by
    obtain ⟨k, hk⟩ := List.mem_iff_getElem?.1 hi
    exact (g2.elF hk).1
  obtain ⟨Z, hZ⟩ : ∃ Z, Z = retM E x was is_ := ⟨_, rfl⟩
  have hEE : decide (E = E) = true := decide_eq_true rfl
  have hll : ∀ q : List QR, q.map meanQ = E → q.length ≤ 30 := fun q hq => by have := congrArg List.length hq; rw [List.length_map] at this; omega
  cases hR : rightH E with
  | false =>
    obtain ⟨tb1, ht1⟩ : ∃ b, typeB was = b := ⟨_, rfl⟩
    obtain ⟨tb2, ht2⟩ : ∃ b, typeB is_ = b := ⟨_, rfl⟩
    obtain ⟨xb, hxr⟩ : ∃ b, inB 1 1048578 x = b := ⟨_, rfl⟩
    have hz : Z = ([], 250) := by rw [hZ]; unfold retM; rw [if_neg (by rw [hR]; decide)]
    repeat' (first
      | ((apply al_none (t := 20); refine JL_o (OpR_callF en10 rfl (rwakes_r _)) rfl rfl ?_; rintro _ _ ⟨rfl, hE⟩; have hs := hs.ext hE))
      | ((apply al_none (t := 23); refine JL_o (OpR_callF en11 rfl (rlown_r _ a n c l (hl.st hs))) rfl rfl ?_; rintro _ _ ⟨qs, a5, c5, ⟨hqm, hqo⟩, rfl, hf⟩; rw [← hE0] at hqm; have hs := hs.fresh hf; have hql := hll qs hqm; (try simp only [List.cons_append, List.nil_append] at hs)))
      | ((apply ax_c; apply JX_cF 24; exact rfl; (intro W X hN hs; exact OpR_callF en24 rfl (cloneI_r _ a1 q1 c1 was (g1.st hs) (by omega))); (rintro _ _ _ _ ⟨a24, c24, rfl, hf⟩; first | exact hE | exact Fresh.ext hf); rintro W X _ _ hN hs ⟨a24, c24, rfl, hf⟩; have hs := hs.fresh hf; (try simp only [List.cons_append, List.nil_append] at hs); refine JX.at hs ?_))
      | ((apply ax_c; apply JX_cF 24; exact rfl; (intro W X hN hs; exact OpR_callF en24 rfl (cloneI_r _ a2 q2 c2 is_ (g2.st hs) (by omega))); (rintro _ _ _ _ ⟨a32, c32, rfl, hf⟩; first | exact hE | exact Fresh.ext hf); rintro W X _ _ hN hs ⟨a32, c32, rfl, hf⟩; have hs := hs.fresh hf; (try simp only [List.cons_append, List.nil_append] at hs); refine JX.at hs ?_))
      | ((apply al_call 25; refine JL_o (by exact OpR_callF en25 rfl (rretype_r _ a5 a24 a32 qs.length c5 q1 c24 q2 c32 (qs.map meanQ) x was is_ (slQ hs (by repeat (first | exact List.Mem.head _ | apply List.Mem.tail)) (by repeat (first | exact List.Mem.head _ | apply List.Mem.tail)) hqo) (slU hs (by repeat (first | exact List.Mem.head _ | apply List.Mem.tail)) hwo) (slU hs (by repeat (first | exact List.Mem.head _ | apply List.Mem.tail)) hio) hx (by omega) (by rw [hqm]; omega) (by omega) (by omega))) rfl rfl ?_; rintro _ _ ⟨qn, a6, c6, ⟨hnm, hno6⟩, rfl, hf⟩; rw [hqm, ← hZ] at hnm ⊢; rw [hz] at hnm ⊢; have hs := hs.fresh hf; (try simp only [List.cons_append, List.nil_append] at hs)))
      | ((apply al_call 12; refine JL_o (by exact OpR_callF en12 rfl (right15_r _ a5 qs.length c5 (qs.map meanQ) (slQ hs (by repeat (first | exact List.Mem.head _ | apply List.Mem.tail)) (by repeat (first | exact List.Mem.head _ | apply List.Mem.tail)) hqo) (by rw [hqm]; omega))) rfl rfl ?_; rintro _ _ ⟨rfl, hE⟩; rw [hqm, hR]; have hs := hs.ext hE; (try simp only [List.cons_append, List.nil_append] at hs)))
      | ((apply al_callg 22; refine JL_o_on rfl gb (by exact OpR_callF en22 rfl (of15_r _ none 0 0 [] (slNil _) (by decide))) rfl rfl ?_; rintro _ _ ⟨q9, a9, c9, ⟨hm9, ho9⟩, rfl, hf⟩; have hs := hs.fresh hf; (try simp only [List.cons_append, List.nil_append] at hs)))
      | ((apply al_callg 21; refine JL_o_on rfl gb (by exact OpR_callF en21 rfl (Same15_r _ a6 a9 qn.length c6 q9.length c9 (qn.map meanQ) (q9.map meanQ) (slQ hs (by repeat (first | exact List.Mem.head _ | apply List.Mem.tail)) (by repeat (first | exact List.Mem.head _ | apply List.Mem.tail)) hno6) (slQ hs (by repeat (first | exact List.Mem.head _ | apply List.Mem.tail)) (by repeat (first | exact List.Mem.head _ | apply List.Mem.tail)) ho9))) rfl rfl ?_; rintro _ _ ⟨rfl, hE⟩; rw [show decide (qn.map meanQ = q9.map meanQ) = true from decide_eq_true (by rw [hnm, hm9]; exact rfl)]; have hs := hs.ext hE; (try simp only [List.cons_append, List.nil_append] at hs)))
      | ((apply al_callg 11; refine JL_o_on rfl gb (by exact OpR_callF en11 rfl (rlown_r _ a n c l (hl.st hs))) rfl rfl ?_; rintro _ _ ⟨qs2, a10, c10, ⟨hqm2, hqo2⟩, rfl, hf⟩; rw [← hE0] at hqm2; have hs := hs.fresh hf; (try simp only [List.cons_append, List.nil_append] at hs)))
      | ((apply al_callg 21; refine JL_o_on rfl gb (by exact OpR_callF en21 rfl (Same15_r _ a5 a10 qs.length c5 qs2.length c10 (qs.map meanQ) (qs2.map meanQ) (slQ hs (by repeat (first | exact List.Mem.head _ | apply List.Mem.tail)) (by repeat (first | exact List.Mem.head _ | apply List.Mem.tail)) hqo) (slQ hs (by repeat (first | exact List.Mem.head _ | apply List.Mem.tail)) (by repeat (first | exact List.Mem.head _ | apply List.Mem.tail)) hqo2))) rfl rfl ?_; rintro _ _ ⟨rfl, hE⟩; rw [hqm, hqm2, hEE]; have hs := hs.ext hE; (try simp only [List.cons_append, List.nil_append] at hs)))
      | (apply JL_nil)
      | ((first | (apply JL_pure) | (apply JL_pure_on; exact rfl; exact gb) | (apply JX_f; exact rfl; intro W X hs)); (first
      | (apply as_load; first | exact OpR_load' hs rfl rfl is_rfl | exact OpR_load_agg' hs rfl is_rfl)
      | (apply as_slice; exact OpR_slice (kl := .i64) (kh := .i64) (km := .i64) (a' := a1) (m := c1) (h := min (n1 : Int) 14) rfl (.inl ⟨rfl, rfl⟩) (.inr ⟨_, rfl, rfl⟩) (.inl ⟨rfl, rfl⟩) (by omega) (by omega) (by omega) (by omega) (by split; rfl; exact addr0 _) (by rw [show (min (n1 : Int) 14 - 0).toNat = q1 by omega, Int.sub_zero, Int.toNat_natCast]; exact is_rfl))
      | (apply as_slice; exact OpR_slice (kl := .i64) (kh := .i64) (km := .i64) (a' := a2) (m := c2) (h := min (n2 : Int) 14) rfl (.inl ⟨rfl, rfl⟩) (.inr ⟨_, rfl, rfl⟩) (.inl ⟨rfl, rfl⟩) (by omega) (by omega) (by omega) (by omega) (by split; rfl; exact addr0 _) (by rw [show (min (n2 : Int) 14 - 0).toNat = q2 by omega, Int.sub_zero, Int.toNat_natCast]; exact is_rfl))
      | (apply as_move; exact OpR_move rfl is_rfl)
      | (apply as_assign; exact OpR_assign rfl is_rfl)
      | (apply as_binOp; exact OpR_ibin rfl rfl rfl is_rfl)
      | (apply as_unOp; exact OpR_not rfl is_rfl)
      | (apply as_pick; exact OpR_pick_t rfl gb rfl is_rfl)
      | (apply as_b_len; exact OpR_len rfl is_rfl)
      | (apply as_extract; exact OpR_extract rfl rfl is_rfl)
      | (apply as_b_min; exact OpR_min rfl rfl is_rfl)
      | (apply as_indexAddr; exact OpR_indexAddr_arr' rfl rfl (by omega) (by omega) (by first | (simp only [Int.reduceToNat, Nat.reduceMul, Nat.reduceAdd]; exact rfl) | exact rfl) is_rfl)); first | (exact rfl; exact rfl) | exact rfl)
      | (apply J_seq)
      | (apply J_region)
      | (apply J_block)
      | (apply J_inBlock)
      | (apply J_skip)
      | (apply al_none (t := 5); refine JL_o (by apply as_box; exact OpR_box' hs rfl) rfl rfl ?_; rintro _ _ ⟨b5, rfl, hb5, hs, hE⟩)
      | (apply aj_cond; first | refine J_dec_t rfl ob ?_ | refine J_cond_t rfl gb ?_ | refine J_cond_f rfl gb ?_)
      | (apply aj_draw; (refine J_drawX (id := 4) [0, 1, 0, 4, 12, 28, 63, 127, 0, 256, 0, 1024, 3072, 7168, 16128, 32767, 65535, 131071] [(0, 0), (1, 0), (2, 0), (3, 0), (4, 0), (5, 0), (6, 0), (8, 0), (9, 0), (10, 0), (11, 0), (12, 0), (13, 0), (14, 0), (7, 1), (15, 1), (16, 0), (17, 0)] [] hs mixed (by kernel_rfl) (by kernel_rfl) (by kernel_rfl) (by kernel_rfl) (by kernel_rfl) ?_))
      | (refine JX_done (fun W hs => ?_))
      | (apply JD_done))
    refine J_leave Tryz.func4 rfl (.tmp rfl .nil) ⟨rfl, hs.frm.ext⟩
  | true =>
    cases ht1 : typeB was with
    | false =>
      obtain ⟨tb2, ht2⟩ : ∃ b, typeB is_ = b := ⟨_, rfl⟩
      obtain ⟨xb, hxr⟩ : ∃ b, inB 1 1048578 x = b := ⟨_, rfl⟩
      have hz : Z = ([], 130) := by rw [hZ]; unfold retM; rw [if_pos hR, if_neg (by rw [ht1]; simp)]
      repeat' (first
        | ((apply al_none (t := 20); refine JL_o (OpR_callF en10 rfl (rwakes_r _)) rfl rfl ?_; rintro _ _ ⟨rfl, hE⟩; have hs := hs.ext hE))
        | ((apply al_none (t := 23); refine JL_o (OpR_callF en11 rfl (rlown_r _ a n c l (hl.st hs))) rfl rfl ?_; rintro _ _ ⟨qs, a5, c5, ⟨hqm, hqo⟩, rfl, hf⟩; rw [← hE0] at hqm; have hs := hs.fresh hf; have hql := hll qs hqm; (try simp only [List.cons_append, List.nil_append] at hs)))
        | ((apply ax_c; apply JX_cF 24; exact rfl; (intro W X hN hs; exact OpR_callF en24 rfl (cloneI_r _ a1 q1 c1 was (g1.st hs) (by omega))); (rintro _ _ _ _ ⟨a24, c24, rfl, hf⟩; first | exact hE | exact Fresh.ext hf); rintro W X _ _ hN hs ⟨a24, c24, rfl, hf⟩; have hs := hs.fresh hf; (try simp only [List.cons_append, List.nil_append] at hs); refine JX.at hs ?_))
        | ((apply ax_c; apply JX_cF 24; exact rfl; (intro W X hN hs; exact OpR_callF en24 rfl (cloneI_r _ a2 q2 c2 is_ (g2.st hs) (by omega))); (rintro _ _ _ _ ⟨a32, c32, rfl, hf⟩; first | exact hE | exact Fresh.ext hf); rintro W X _ _ hN hs ⟨a32, c32, rfl, hf⟩; have hs := hs.fresh hf; (try simp only [List.cons_append, List.nil_append] at hs); refine JX.at hs ?_))
        | ((apply al_call 25; refine JL_o (by exact OpR_callF en25 rfl (rretype_r _ a5 a24 a32 qs.length c5 q1 c24 q2 c32 (qs.map meanQ) x was is_ (slQ hs (by repeat (first | exact List.Mem.head _ | apply List.Mem.tail)) (by repeat (first | exact List.Mem.head _ | apply List.Mem.tail)) hqo) (slU hs (by repeat (first | exact List.Mem.head _ | apply List.Mem.tail)) hwo) (slU hs (by repeat (first | exact List.Mem.head _ | apply List.Mem.tail)) hio) hx (by omega) (by rw [hqm]; omega) (by omega) (by omega))) rfl rfl ?_; rintro _ _ ⟨qn, a6, c6, ⟨hnm, hno6⟩, rfl, hf⟩; rw [hqm, ← hZ] at hnm ⊢; rw [hz] at hnm ⊢; have hs := hs.fresh hf; (try simp only [List.cons_append, List.nil_append] at hs)))
        | ((apply al_call 12; refine JL_o (by exact OpR_callF en12 rfl (right15_r _ a5 qs.length c5 (qs.map meanQ) (slQ hs (by repeat (first | exact List.Mem.head _ | apply List.Mem.tail)) (by repeat (first | exact List.Mem.head _ | apply List.Mem.tail)) hqo) (by rw [hqm]; omega))) rfl rfl ?_; rintro _ _ ⟨rfl, hE⟩; rw [hqm, hR]; have hs := hs.ext hE; (try simp only [List.cons_append, List.nil_append] at hs)))
        | ((apply al_call 26; refine JL_o (by exact OpR_callF en26 rfl (rightR_r _ a24 q1 c24 was (slU hs (by repeat (first | exact List.Mem.head _ | apply List.Mem.tail)) hwo))) rfl rfl ?_; rintro _ _ ⟨rfl, hE⟩; rw [ht1]; have hs := hs.ext hE; (try simp only [List.cons_append, List.nil_append] at hs)))
        | ((apply al_callg 22; refine JL_o_on rfl gb (by exact OpR_callF en22 rfl (of15_r _ none 0 0 [] (slNil _) (by decide))) rfl rfl ?_; rintro _ _ ⟨q9, a9, c9, ⟨hm9, ho9⟩, rfl, hf⟩; have hs := hs.fresh hf; (try simp only [List.cons_append, List.nil_append] at hs)))
        | ((apply al_callg 21; refine JL_o_on rfl gb (by exact OpR_callF en21 rfl (Same15_r _ a6 a9 qn.length c6 q9.length c9 (qn.map meanQ) (q9.map meanQ) (slQ hs (by repeat (first | exact List.Mem.head _ | apply List.Mem.tail)) (by repeat (first | exact List.Mem.head _ | apply List.Mem.tail)) hno6) (slQ hs (by repeat (first | exact List.Mem.head _ | apply List.Mem.tail)) (by repeat (first | exact List.Mem.head _ | apply List.Mem.tail)) ho9))) rfl rfl ?_; rintro _ _ ⟨rfl, hE⟩; rw [show decide (qn.map meanQ = q9.map meanQ) = true from decide_eq_true (by rw [hnm, hm9]; exact rfl)]; have hs := hs.ext hE; (try simp only [List.cons_append, List.nil_append] at hs)))
        | ((apply al_callg 11; refine JL_o_on rfl gb (by exact OpR_callF en11 rfl (rlown_r _ a n c l (hl.st hs))) rfl rfl ?_; rintro _ _ ⟨qs2, a10, c10, ⟨hqm2, hqo2⟩, rfl, hf⟩; rw [← hE0] at hqm2; have hs := hs.fresh hf; (try simp only [List.cons_append, List.nil_append] at hs)))
        | ((apply al_callg 21; refine JL_o_on rfl gb (by exact OpR_callF en21 rfl (Same15_r _ a5 a10 qs.length c5 qs2.length c10 (qs.map meanQ) (qs2.map meanQ) (slQ hs (by repeat (first | exact List.Mem.head _ | apply List.Mem.tail)) (by repeat (first | exact List.Mem.head _ | apply List.Mem.tail)) hqo) (slQ hs (by repeat (first | exact List.Mem.head _ | apply List.Mem.tail)) (by repeat (first | exact List.Mem.head _ | apply List.Mem.tail)) hqo2))) rfl rfl ?_; rintro _ _ ⟨rfl, hE⟩; rw [hqm, hqm2, hEE]; have hs := hs.ext hE; (try simp only [List.cons_append, List.nil_append] at hs)))
        | (apply JL_nil)
        | ((first | (apply JL_pure) | (apply JL_pure_on; exact rfl; exact gb) | (apply JX_f; exact rfl; intro W X hs)); (first
      | (apply as_load; first | exact OpR_load' hs rfl rfl is_rfl | exact OpR_load_agg' hs rfl is_rfl)
      | (apply as_slice; exact OpR_slice (kl := .i64) (kh := .i64) (km := .i64) (a' := a1) (m := c1) (h := min (n1 : Int) 14) rfl (.inl ⟨rfl, rfl⟩) (.inr ⟨_, rfl, rfl⟩) (.inl ⟨rfl, rfl⟩) (by omega) (by omega) (by omega) (by omega) (by split; rfl; exact addr0 _) (by rw [show (min (n1 : Int) 14 - 0).toNat = q1 by omega, Int.sub_zero, Int.toNat_natCast]; exact is_rfl))
      | (apply as_slice; exact OpR_slice (kl := .i64) (kh := .i64) (km := .i64) (a' := a2) (m := c2) (h := min (n2 : Int) 14) rfl (.inl ⟨rfl, rfl⟩) (.inr ⟨_, rfl, rfl⟩) (.inl ⟨rfl, rfl⟩) (by omega) (by omega) (by omega) (by omega) (by split; rfl; exact addr0 _) (by rw [show (min (n2 : Int) 14 - 0).toNat = q2 by omega, Int.sub_zero, Int.toNat_natCast]; exact is_rfl))
      | (apply as_move; exact OpR_move rfl is_rfl)
      | (apply as_assign; exact OpR_assign rfl is_rfl)
      | (apply as_binOp; exact OpR_ibin rfl rfl rfl is_rfl)
      | (apply as_unOp; exact OpR_not rfl is_rfl)
      | (apply as_pick; exact OpR_pick_t rfl gb rfl is_rfl)
      | (apply as_b_len; exact OpR_len rfl is_rfl)
      | (apply as_extract; exact OpR_extract rfl rfl is_rfl)
      | (apply as_b_min; exact OpR_min rfl rfl is_rfl)
      | (apply as_indexAddr; exact OpR_indexAddr_arr' rfl rfl (by omega) (by omega) (by first | (simp only [Int.reduceToNat, Nat.reduceMul, Nat.reduceAdd]; exact rfl) | exact rfl) is_rfl)); first | (exact rfl; exact rfl) | exact rfl)
        | (apply J_seq)
        | (apply J_region)
        | (apply J_block)
        | (apply J_inBlock)
        | (apply J_skip)
        | (apply al_none (t := 5); refine JL_o (by apply as_box; exact OpR_box' hs rfl) rfl rfl ?_; rintro _ _ ⟨b5, rfl, hb5, hs, hE⟩)
        | (apply al_guard; (refine JL_no rfl gb rfl ?_))
        | (apply aj_cond; first | refine J_dec_t rfl ob ?_ | refine J_cond_t rfl gb ?_ | refine J_cond_f rfl gb ?_)
        | (apply aj_draw; (refine J_drawX (id := 4) [0, 1, 0, 4, 12, 28, 63, 127, 0, 256, 0, 1024, 3072, 7168, 16128, 32767, 65535, 131071] [(0, 0), (1, 0), (2, 0), (3, 0), (4, 0), (5, 0), (6, 0), (8, 0), (9, 0), (10, 0), (11, 0), (12, 0), (13, 0), (14, 0), (7, 1), (15, 1), (16, 0), (17, 0)] [] hs mixed (by kernel_rfl) (by kernel_rfl) (by kernel_rfl) (by kernel_rfl) (by kernel_rfl) ?_))
        | (refine JX_done (fun W hs => ?_))
        | (apply JD_done))
      refine J_leave Tryz.func4 rfl (.tmp rfl .nil) ⟨rfl, hs.frm.ext⟩
    | true =>
      cases ht2 : typeB is_ with
      | false =>
        obtain ⟨xb, hxr⟩ : ∃ b, inB 1 1048578 x = b := ⟨_, rfl⟩
        have hz : Z = ([], 130) := by rw [hZ]; unfold retM; rw [if_pos hR, if_neg (by rw [ht1, ht2]; decide)]
        repeat' (first
          | ((apply al_none (t := 20); refine JL_o (OpR_callF en10 rfl (rwakes_r _)) rfl rfl ?_; rintro _ _ ⟨rfl, hE⟩; have hs := hs.ext hE))
          | ((apply al_none (t := 23); refine JL_o (OpR_callF en11 rfl (rlown_r _ a n c l (hl.st hs))) rfl rfl ?_; rintro _ _ ⟨qs, a5, c5, ⟨hqm, hqo⟩, rfl, hf⟩; rw [← hE0] at hqm; have hs := hs.fresh hf; have hql := hll qs hqm; (try simp only [List.cons_append, List.nil_append] at hs)))
          | ((apply ax_c; apply JX_cF 24; exact rfl; (intro W X hN hs; exact OpR_callF en24 rfl (cloneI_r _ a1 q1 c1 was (g1.st hs) (by omega))); (rintro _ _ _ _ ⟨a24, c24, rfl, hf⟩; first | exact hE | exact Fresh.ext hf); rintro W X _ _ hN hs ⟨a24, c24, rfl, hf⟩; have hs := hs.fresh hf; (try simp only [List.cons_append, List.nil_append] at hs); refine JX.at hs ?_))
          | ((apply ax_c; apply JX_cF 24; exact rfl; (intro W X hN hs; exact OpR_callF en24 rfl (cloneI_r _ a2 q2 c2 is_ (g2.st hs) (by omega))); (rintro _ _ _ _ ⟨a32, c32, rfl, hf⟩; first | exact hE | exact Fresh.ext hf); rintro W X _ _ hN hs ⟨a32, c32, rfl, hf⟩; have hs := hs.fresh hf; (try simp only [List.cons_append, List.nil_append] at hs); refine JX.at hs ?_))
          | ((apply al_call 25; refine JL_o (by exact OpR_callF en25 rfl (rretype_r _ a5 a24 a32 qs.length c5 q1 c24 q2 c32 (qs.map meanQ) x was is_ (slQ hs (by repeat (first | exact List.Mem.head _ | apply List.Mem.tail)) (by repeat (first | exact List.Mem.head _ | apply List.Mem.tail)) hqo) (slU hs (by repeat (first | exact List.Mem.head _ | apply List.Mem.tail)) hwo) (slU hs (by repeat (first | exact List.Mem.head _ | apply List.Mem.tail)) hio) hx (by omega) (by rw [hqm]; omega) (by omega) (by omega))) rfl rfl ?_; rintro _ _ ⟨qn, a6, c6, ⟨hnm, hno6⟩, rfl, hf⟩; rw [hqm, ← hZ] at hnm ⊢; rw [hz] at hnm ⊢; have hs := hs.fresh hf; (try simp only [List.cons_append, List.nil_append] at hs)))
          | ((apply al_call 12; refine JL_o (by exact OpR_callF en12 rfl (right15_r _ a5 qs.length c5 (qs.map meanQ) (slQ hs (by repeat (first | exact List.Mem.head _ | apply List.Mem.tail)) (by repeat (first | exact List.Mem.head _ | apply List.Mem.tail)) hqo) (by rw [hqm]; omega))) rfl rfl ?_; rintro _ _ ⟨rfl, hE⟩; rw [hqm, hR]; have hs := hs.ext hE; (try simp only [List.cons_append, List.nil_append] at hs)))
          | ((apply al_call 26; refine JL_o (by exact OpR_callF en26 rfl (rightR_r _ a24 q1 c24 was (slU hs (by repeat (first | exact List.Mem.head _ | apply List.Mem.tail)) hwo))) rfl rfl ?_; rintro _ _ ⟨rfl, hE⟩; rw [ht1]; have hs := hs.ext hE; (try simp only [List.cons_append, List.nil_append] at hs)))
          | ((apply al_callg 26; refine JL_o_on rfl gb (by exact OpR_callF en26 rfl (rightR_r _ a32 q2 c32 is_ (slU hs (by repeat (first | exact List.Mem.head _ | apply List.Mem.tail)) hio))) rfl rfl ?_; rintro _ _ ⟨rfl, hE⟩; rw [ht2]; have hs := hs.ext hE; (try simp only [List.cons_append, List.nil_append] at hs)))
          | ((apply al_callg 22; refine JL_o_on rfl gb (by exact OpR_callF en22 rfl (of15_r _ none 0 0 [] (slNil _) (by decide))) rfl rfl ?_; rintro _ _ ⟨q9, a9, c9, ⟨hm9, ho9⟩, rfl, hf⟩; have hs := hs.fresh hf; (try simp only [List.cons_append, List.nil_append] at hs)))
          | ((apply al_callg 21; refine JL_o_on rfl gb (by exact OpR_callF en21 rfl (Same15_r _ a6 a9 qn.length c6 q9.length c9 (qn.map meanQ) (q9.map meanQ) (slQ hs (by repeat (first | exact List.Mem.head _ | apply List.Mem.tail)) (by repeat (first | exact List.Mem.head _ | apply List.Mem.tail)) hno6) (slQ hs (by repeat (first | exact List.Mem.head _ | apply List.Mem.tail)) (by repeat (first | exact List.Mem.head _ | apply List.Mem.tail)) ho9))) rfl rfl ?_; rintro _ _ ⟨rfl, hE⟩; rw [show decide (qn.map meanQ = q9.map meanQ) = true from decide_eq_true (by rw [hnm, hm9]; exact rfl)]; have hs := hs.ext hE; (try simp only [List.cons_append, List.nil_append] at hs)))
          | ((apply al_callg 11; refine JL_o_on rfl gb (by exact OpR_callF en11 rfl (rlown_r _ a n c l (hl.st hs))) rfl rfl ?_; rintro _ _ ⟨qs2, a10, c10, ⟨hqm2, hqo2⟩, rfl, hf⟩; rw [← hE0] at hqm2; have hs := hs.fresh hf; (try simp only [List.cons_append, List.nil_append] at hs)))
          | ((apply al_callg 21; refine JL_o_on rfl gb (by exact OpR_callF en21 rfl (Same15_r _ a5 a10 qs.length c5 qs2.length c10 (qs.map meanQ) (qs2.map meanQ) (slQ hs (by repeat (first | exact List.Mem.head _ | apply List.Mem.tail)) (by repeat (first | exact List.Mem.head _ | apply List.Mem.tail)) hqo) (slQ hs (by repeat (first | exact List.Mem.head _ | apply List.Mem.tail)) (by repeat (first | exact List.Mem.head _ | apply List.Mem.tail)) hqo2))) rfl rfl ?_; rintro _ _ ⟨rfl, hE⟩; rw [hqm, hqm2, hEE]; have hs := hs.ext hE; (try simp only [List.cons_append, List.nil_append] at hs)))
          | (apply JL_nil)
          | ((first | (apply JL_pure) | (apply JL_pure_on; exact rfl; exact gb) | (apply JX_f; exact rfl; intro W X hs)); (first
      | (apply as_load; first | exact OpR_load' hs rfl rfl is_rfl | exact OpR_load_agg' hs rfl is_rfl)
      | (apply as_slice; exact OpR_slice (kl := .i64) (kh := .i64) (km := .i64) (a' := a1) (m := c1) (h := min (n1 : Int) 14) rfl (.inl ⟨rfl, rfl⟩) (.inr ⟨_, rfl, rfl⟩) (.inl ⟨rfl, rfl⟩) (by omega) (by omega) (by omega) (by omega) (by split; rfl; exact addr0 _) (by rw [show (min (n1 : Int) 14 - 0).toNat = q1 by omega, Int.sub_zero, Int.toNat_natCast]; exact is_rfl))
      | (apply as_slice; exact OpR_slice (kl := .i64) (kh := .i64) (km := .i64) (a' := a2) (m := c2) (h := min (n2 : Int) 14) rfl (.inl ⟨rfl, rfl⟩) (.inr ⟨_, rfl, rfl⟩) (.inl ⟨rfl, rfl⟩) (by omega) (by omega) (by omega) (by omega) (by split; rfl; exact addr0 _) (by rw [show (min (n2 : Int) 14 - 0).toNat = q2 by omega, Int.sub_zero, Int.toNat_natCast]; exact is_rfl))
      | (apply as_move; exact OpR_move rfl is_rfl)
      | (apply as_assign; exact OpR_assign rfl is_rfl)
      | (apply as_binOp; exact OpR_ibin rfl rfl rfl is_rfl)
      | (apply as_unOp; exact OpR_not rfl is_rfl)
      | (apply as_pick; first | exact OpR_pick_t rfl gb rfl is_rfl | exact OpR_pick_f rfl gb rfl is_rfl)
      | (apply as_b_len; exact OpR_len rfl is_rfl)
      | (apply as_extract; exact OpR_extract rfl rfl is_rfl)
      | (apply as_b_min; exact OpR_min rfl rfl is_rfl)
      | (apply as_indexAddr; exact OpR_indexAddr_arr' rfl rfl (by omega) (by omega) (by first | (simp only [Int.reduceToNat, Nat.reduceMul, Nat.reduceAdd]; exact rfl) | exact rfl) is_rfl)); first | (exact rfl; exact rfl) | exact rfl)
          | (apply J_seq)
          | (apply J_region)
          | (apply J_block)
          | (apply J_inBlock)
          | (apply J_skip)
          | (apply al_none (t := 5); refine JL_o (by apply as_box; exact OpR_box' hs rfl) rfl rfl ?_; rintro _ _ ⟨b5, rfl, hb5, hs, hE⟩)
          | (apply aj_cond; first | refine J_dec_t rfl ob ?_ | refine J_cond_t rfl gb ?_ | refine J_cond_f rfl gb ?_)
          | (apply aj_draw; (refine J_drawX (id := 4) [0, 1, 0, 4, 12, 28, 63, 127, 0, 256, 0, 1024, 3072, 7168, 16128, 32767, 65535, 131071] [(0, 0), (1, 0), (2, 0), (3, 0), (4, 0), (5, 0), (6, 0), (8, 0), (9, 0), (10, 0), (11, 0), (12, 0), (13, 0), (14, 0), (7, 1), (15, 1), (16, 0), (17, 0)] [] hs mixed (by kernel_rfl) (by kernel_rfl) (by kernel_rfl) (by kernel_rfl) (by kernel_rfl) ?_))
          | (refine JX_done (fun W hs => ?_))
          | (apply JD_done))
        refine J_leave Tryz.func4 rfl (.tmp rfl .nil) ⟨rfl, hs.frm.ext⟩
      | true =>
        cases hxr : inB 1 1048578 x with
        | false =>
          have hxn : ¬ (1 ≤ x ∧ x ≤ 1048578) := fun h => by unfold inB at hxr; rw [decide_eq_true h] at hxr; cases hxr
          have hz : Z = ([], 2) := by rw [hZ]; unfold retM; rw [if_pos hR, if_pos (by rw [ht1, ht2]; rfl), if_neg hxn]
          repeat' (first
            | ((apply al_none (t := 20); refine JL_o (OpR_callF en10 rfl (rwakes_r _)) rfl rfl ?_; rintro _ _ ⟨rfl, hE⟩; have hs := hs.ext hE))
            | ((apply al_none (t := 23); refine JL_o (OpR_callF en11 rfl (rlown_r _ a n c l (hl.st hs))) rfl rfl ?_; rintro _ _ ⟨qs, a5, c5, ⟨hqm, hqo⟩, rfl, hf⟩; rw [← hE0] at hqm; have hs := hs.fresh hf; have hql := hll qs hqm; (try simp only [List.cons_append, List.nil_append] at hs)))
            | ((apply ax_c; apply JX_cF 24; exact rfl; (intro W X hN hs; exact OpR_callF en24 rfl (cloneI_r _ a1 q1 c1 was (g1.st hs) (by omega))); (rintro _ _ _ _ ⟨a24, c24, rfl, hf⟩; first | exact hE | exact Fresh.ext hf); rintro W X _ _ hN hs ⟨a24, c24, rfl, hf⟩; have hs := hs.fresh hf; (try simp only [List.cons_append, List.nil_append] at hs); refine JX.at hs ?_))
            | ((apply ax_c; apply JX_cF 24; exact rfl; (intro W X hN hs; exact OpR_callF en24 rfl (cloneI_r _ a2 q2 c2 is_ (g2.st hs) (by omega))); (rintro _ _ _ _ ⟨a32, c32, rfl, hf⟩; first | exact hE | exact Fresh.ext hf); rintro W X _ _ hN hs ⟨a32, c32, rfl, hf⟩; have hs := hs.fresh hf; (try simp only [List.cons_append, List.nil_append] at hs); refine JX.at hs ?_))
            | ((apply al_call 25; refine JL_o (by exact OpR_callF en25 rfl (rretype_r _ a5 a24 a32 qs.length c5 q1 c24 q2 c32 (qs.map meanQ) x was is_ (slQ hs (by repeat (first | exact List.Mem.head _ | apply List.Mem.tail)) (by repeat (first | exact List.Mem.head _ | apply List.Mem.tail)) hqo) (slU hs (by repeat (first | exact List.Mem.head _ | apply List.Mem.tail)) hwo) (slU hs (by repeat (first | exact List.Mem.head _ | apply List.Mem.tail)) hio) hx (by omega) (by rw [hqm]; omega) (by omega) (by omega))) rfl rfl ?_; rintro _ _ ⟨qn, a6, c6, ⟨hnm, hno6⟩, rfl, hf⟩; rw [hqm, ← hZ] at hnm ⊢; rw [hz] at hnm ⊢; have hs := hs.fresh hf; (try simp only [List.cons_append, List.nil_append] at hs)))
            | ((apply al_call 12; refine JL_o (by exact OpR_callF en12 rfl (right15_r _ a5 qs.length c5 (qs.map meanQ) (slQ hs (by repeat (first | exact List.Mem.head _ | apply List.Mem.tail)) (by repeat (first | exact List.Mem.head _ | apply List.Mem.tail)) hqo) (by rw [hqm]; omega))) rfl rfl ?_; rintro _ _ ⟨rfl, hE⟩; rw [hqm, hR]; have hs := hs.ext hE; (try simp only [List.cons_append, List.nil_append] at hs)))
            | ((apply al_call 26; refine JL_o (by exact OpR_callF en26 rfl (rightR_r _ a24 q1 c24 was (slU hs (by repeat (first | exact List.Mem.head _ | apply List.Mem.tail)) hwo))) rfl rfl ?_; rintro _ _ ⟨rfl, hE⟩; rw [ht1]; have hs := hs.ext hE; (try simp only [List.cons_append, List.nil_append] at hs)))
            | ((apply al_callg 26; refine JL_o_on rfl gb (by exact OpR_callF en26 rfl (rightR_r _ a32 q2 c32 is_ (slU hs (by repeat (first | exact List.Mem.head _ | apply List.Mem.tail)) hio))) rfl rfl ?_; rintro _ _ ⟨rfl, hE⟩; rw [ht2]; have hs := hs.ext hE; (try simp only [List.cons_append, List.nil_append] at hs)))
            | ((apply al_call 27; refine JL_o (by exact OpR_callF en27 rfl (isR_r _ x 1 1048578)) rfl rfl ?_; rintro _ _ ⟨rfl, hE⟩; rw [hxr]; have hs := hs.ext hE; (try simp only [List.cons_append, List.nil_append] at hs)))
            | ((apply al_callg 22; refine JL_o_on rfl gb (by exact OpR_callF en22 rfl (of15_r _ none 0 0 [] (slNil _) (by decide))) rfl rfl ?_; rintro _ _ ⟨q9, a9, c9, ⟨hm9, ho9⟩, rfl, hf⟩; have hs := hs.fresh hf; (try simp only [List.cons_append, List.nil_append] at hs)))
            | ((apply al_callg 21; refine JL_o_on rfl gb (by exact OpR_callF en21 rfl (Same15_r _ a6 a9 qn.length c6 q9.length c9 (qn.map meanQ) (q9.map meanQ) (slQ hs (by repeat (first | exact List.Mem.head _ | apply List.Mem.tail)) (by repeat (first | exact List.Mem.head _ | apply List.Mem.tail)) hno6) (slQ hs (by repeat (first | exact List.Mem.head _ | apply List.Mem.tail)) (by repeat (first | exact List.Mem.head _ | apply List.Mem.tail)) ho9))) rfl rfl ?_; rintro _ _ ⟨rfl, hE⟩; rw [show decide (qn.map meanQ = q9.map meanQ) = true from decide_eq_true (by rw [hnm, hm9]; exact rfl)]; have hs := hs.ext hE; (try simp only [List.cons_append, List.nil_append] at hs)))
            | ((apply al_callg 11; refine JL_o_on rfl gb (by exact OpR_callF en11 rfl (rlown_r _ a n c l (hl.st hs))) rfl rfl ?_; rintro _ _ ⟨qs2, a10, c10, ⟨hqm2, hqo2⟩, rfl, hf⟩; rw [← hE0] at hqm2; have hs := hs.fresh hf; (try simp only [List.cons_append, List.nil_append] at hs)))
            | ((apply al_callg 21; refine JL_o_on rfl gb (by exact OpR_callF en21 rfl (Same15_r _ a5 a10 qs.length c5 qs2.length c10 (qs.map meanQ) (qs2.map meanQ) (slQ hs (by repeat (first | exact List.Mem.head _ | apply List.Mem.tail)) (by repeat (first | exact List.Mem.head _ | apply List.Mem.tail)) hqo) (slQ hs (by repeat (first | exact List.Mem.head _ | apply List.Mem.tail)) (by repeat (first | exact List.Mem.head _ | apply List.Mem.tail)) hqo2))) rfl rfl ?_; rintro _ _ ⟨rfl, hE⟩; rw [hqm, hqm2, hEE]; have hs := hs.ext hE; (try simp only [List.cons_append, List.nil_append] at hs)))
            | (apply JL_nil)
            | ((first | (apply JL_pure) | (apply JL_pure_on; exact rfl; exact gb) | (apply JX_f; exact rfl; intro W X hs)); (first
      | (apply as_load; first | exact OpR_load' hs rfl rfl is_rfl | exact OpR_load_agg' hs rfl is_rfl)
      | (apply as_slice; exact OpR_slice (kl := .i64) (kh := .i64) (km := .i64) (a' := a1) (m := c1) (h := min (n1 : Int) 14) rfl (.inl ⟨rfl, rfl⟩) (.inr ⟨_, rfl, rfl⟩) (.inl ⟨rfl, rfl⟩) (by omega) (by omega) (by omega) (by omega) (by split; rfl; exact addr0 _) (by rw [show (min (n1 : Int) 14 - 0).toNat = q1 by omega, Int.sub_zero, Int.toNat_natCast]; exact is_rfl))
      | (apply as_slice; exact OpR_slice (kl := .i64) (kh := .i64) (km := .i64) (a' := a2) (m := c2) (h := min (n2 : Int) 14) rfl (.inl ⟨rfl, rfl⟩) (.inr ⟨_, rfl, rfl⟩) (.inl ⟨rfl, rfl⟩) (by omega) (by omega) (by omega) (by omega) (by split; rfl; exact addr0 _) (by rw [show (min (n2 : Int) 14 - 0).toNat = q2 by omega, Int.sub_zero, Int.toNat_natCast]; exact is_rfl))
      | (apply as_move; exact OpR_move rfl is_rfl)
      | (apply as_assign; exact OpR_assign rfl is_rfl)
      | (apply as_binOp; exact OpR_ibin rfl rfl rfl is_rfl)
      | (apply as_unOp; exact OpR_not rfl is_rfl)
      | (apply as_pick; first | exact OpR_pick_t rfl gb rfl is_rfl | exact OpR_pick_f rfl gb rfl is_rfl)
      | (apply as_b_len; exact OpR_len rfl is_rfl)
      | (apply as_extract; exact OpR_extract rfl rfl is_rfl)
      | (apply as_b_min; exact OpR_min rfl rfl is_rfl)
      | (apply as_indexAddr; exact OpR_indexAddr_arr' rfl rfl (by omega) (by omega) (by first | (simp only [Int.reduceToNat, Nat.reduceMul, Nat.reduceAdd]; exact rfl) | exact rfl) is_rfl)); first | (exact rfl; exact rfl) | exact rfl)
            | (apply J_seq)
            | (apply J_region)
            | (apply J_block)
            | (apply J_inBlock)
            | (apply J_skip)
            | (apply al_none (t := 5); refine JL_o (by apply as_box; exact OpR_box' hs rfl) rfl rfl ?_; rintro _ _ ⟨b5, rfl, hb5, hs, hE⟩)
            | (apply aj_cond; first | refine J_dec_t rfl ob ?_ | refine J_cond_t rfl gb ?_ | refine J_cond_f rfl gb ?_)
            | (apply aj_draw; (refine J_drawX (id := 4) [0, 1, 0, 4, 12, 28, 63, 127, 0, 256, 0, 1024, 3072, 7168, 16128, 32767, 65535, 131071] [(0, 0), (1, 0), (2, 0), (3, 0), (4, 0), (5, 0), (6, 0), (8, 0), (9, 0), (10, 0), (11, 0), (12, 0), (13, 0), (14, 0), (7, 1), (15, 1), (16, 0), (17, 0)] [] hs mixed (by kernel_rfl) (by kernel_rfl) (by kernel_rfl) (by kernel_rfl) (by kernel_rfl) ?_))
            | (refine JX_done (fun W hs => ?_))
            | (apply JD_done))
          refine J_leave Tryz.func4 rfl (.tmp rfl .nil) ⟨rfl, hs.frm.ext⟩
        | true =>
          have hxy : 1 ≤ x ∧ x ≤ 1048578 := by unfold inB at hxr; exact of_decide_eq_true hxr
          have hmay : ∀ i, kindM i = 3 → mayH (x, i) = true := fun i hi => by unfold mayH; rw [hxr]; simp [hi]
          obtain ⟨S1, hS1⟩ : ∃ s, s = runM false x (E, 0) (pairsM was is_) := ⟨_, rfl⟩
          have hz : Z = runM true x S1 (pairsM is_ was) := by rw [hZ, hS1]; unfold retM; rw [if_pos hR, if_pos (by rw [ht1, ht2]; rfl), if_pos hxy]
          obtain ⟨A0, hA0⟩ : ∃ A, A = allH E := ⟨_, rfl⟩
          have hA0l : A0.length ≤ 1800 := by rw [hA0]; have := allH_len E; omega
          have hA0o : ∀ y ∈ A0, okH y := by
            rw [hA0]
            refine allH_ok fun r hr => ?_
            rw [hE0] at hr
            exact ownL_ok' hl r hr
          repeat' (first
            | ((apply al_none (t := 20); refine JL_o (OpR_callF en10 rfl (rwakes_r _)) rfl rfl ?_; rintro _ _ ⟨rfl, hE⟩; have hs := hs.ext hE))
            | ((apply al_none (t := 23); refine JL_o (OpR_callF en11 rfl (rlown_r _ a n c l (hl.st hs))) rfl rfl ?_; rintro _ _ ⟨qs, a5, c5, ⟨hqm, hqo⟩, rfl, hf⟩; rw [← hE0] at hqm; have hs := hs.fresh hf; have hql := hll qs hqm; (try simp only [List.cons_append, List.nil_append] at hs)))
            | ((apply ax_c; apply JX_cF 24; exact rfl; (intro W X hN hs; exact OpR_callF en24 rfl (cloneI_r _ a1 q1 c1 was (g1.st hs) (by omega))); (rintro _ _ _ _ ⟨a24, c24, rfl, hf⟩; first | exact hE | exact Fresh.ext hf); rintro W X _ _ hN hs ⟨a24, c24, rfl, hf⟩; have hs := hs.fresh hf; (try simp only [List.cons_append, List.nil_append] at hs); refine JX.at hs ?_))
            | ((apply ax_c; apply JX_cF 24; exact rfl; (intro W X hN hs; exact OpR_callF en24 rfl (cloneI_r _ a2 q2 c2 is_ (g2.st hs) (by omega))); (rintro _ _ _ _ ⟨a32, c32, rfl, hf⟩; first | exact hE | exact Fresh.ext hf); rintro W X _ _ hN hs ⟨a32, c32, rfl, hf⟩; have hs := hs.fresh hf; (try simp only [List.cons_append, List.nil_append] at hs); refine JX.at hs ?_))
            | ((apply al_call 25; refine JL_o (by exact OpR_callF en25 rfl (rretype_r _ a5 a24 a32 qs.length c5 q1 c24 q2 c32 (qs.map meanQ) x was is_ (slQ hs (by repeat (first | exact List.Mem.head _ | apply List.Mem.tail)) (by repeat (first | exact List.Mem.head _ | apply List.Mem.tail)) hqo) (slU hs (by repeat (first | exact List.Mem.head _ | apply List.Mem.tail)) hwo) (slU hs (by repeat (first | exact List.Mem.head _ | apply List.Mem.tail)) hio) hx (by omega) (by rw [hqm]; omega) (by omega) (by omega))) rfl rfl ?_; rintro _ _ ⟨qn, a6, c6, ⟨hnm, hno6⟩, rfl, hf⟩; rw [hqm, ← hZ] at hnm ⊢; have hs := hs.fresh hf; (try simp only [List.cons_append, List.nil_append] at hs)))
            | ((apply al_call 12; refine JL_o (by exact OpR_callF en12 rfl (right15_r _ a5 qs.length c5 (qs.map meanQ) (slQ hs (by repeat (first | exact List.Mem.head _ | apply List.Mem.tail)) (by repeat (first | exact List.Mem.head _ | apply List.Mem.tail)) hqo) (by rw [hqm]; omega))) rfl rfl ?_; rintro _ _ ⟨rfl, hE⟩; rw [hqm, hR]; have hs := hs.ext hE; (try simp only [List.cons_append, List.nil_append] at hs)))
            | ((apply al_call 26; refine JL_o (by exact OpR_callF en26 rfl (rightR_r _ a24 q1 c24 was (slU hs (by repeat (first | exact List.Mem.head _ | apply List.Mem.tail)) hwo))) rfl rfl ?_; rintro _ _ ⟨rfl, hE⟩; rw [ht1]; have hs := hs.ext hE; (try simp only [List.cons_append, List.nil_append] at hs)))
            | ((apply al_callg 26; refine JL_o_on rfl gb (by exact OpR_callF en26 rfl (rightR_r _ a32 q2 c32 is_ (slU hs (by repeat (first | exact List.Mem.head _ | apply List.Mem.tail)) hio))) rfl rfl ?_; rintro _ _ ⟨rfl, hE⟩; rw [ht2]; have hs := hs.ext hE; (try simp only [List.cons_append, List.nil_append] at hs)))
            | ((apply al_call 27; refine JL_o (by exact OpR_callF en27 rfl (isR_r _ x 1 1048578)) rfl rfl ?_; rintro _ _ ⟨rfl, hE⟩; rw [hxr]; have hs := hs.ext hE; (try simp only [List.cons_append, List.nil_append] at hs)))
            | ((apply al_call 14; refine JL_o (by exact OpR_callF en14 rfl (all15_r _ a5 qs.length c5 (qs.map meanQ) (slQ hs (by repeat (first | exact List.Mem.head _ | apply List.Mem.tail)) (by repeat (first | exact List.Mem.head _ | apply List.Mem.tail)) hqo) (by rw [hqm]; omega))) rfl rfl ?_; rintro _ _ ⟨aa, ca, rfl, hf⟩; rw [hqm, ← hA0] at hf ⊢; have hs := hs.fresh hf; (try simp only [List.cons_append, List.nil_append] at hs)))
            | (apply JL_nil)
            | ((first | (apply JL_pure) | (apply JL_pure_on; exact rfl; exact gb) | (apply JX_f; exact rfl; intro W X hs)); (first
      | (apply as_load; first | exact OpR_load' hs rfl rfl is_rfl | exact OpR_load_agg' hs rfl is_rfl)
      | (apply as_slice; exact OpR_slice (kl := .i64) (kh := .i64) (km := .i64) (a' := a1) (m := c1) (h := min (n1 : Int) 14) rfl (.inl ⟨rfl, rfl⟩) (.inr ⟨_, rfl, rfl⟩) (.inl ⟨rfl, rfl⟩) (by omega) (by omega) (by omega) (by omega) (by split; rfl; exact addr0 _) (by rw [show (min (n1 : Int) 14 - 0).toNat = q1 by omega, Int.sub_zero, Int.toNat_natCast]; exact is_rfl))
      | (apply as_slice; exact OpR_slice (kl := .i64) (kh := .i64) (km := .i64) (a' := a2) (m := c2) (h := min (n2 : Int) 14) rfl (.inl ⟨rfl, rfl⟩) (.inr ⟨_, rfl, rfl⟩) (.inl ⟨rfl, rfl⟩) (by omega) (by omega) (by omega) (by omega) (by split; rfl; exact addr0 _) (by rw [show (min (n2 : Int) 14 - 0).toNat = q2 by omega, Int.sub_zero, Int.toNat_natCast]; exact is_rfl))
      | (apply as_move; exact OpR_move rfl is_rfl)
      | (apply as_assign; exact OpR_assign rfl is_rfl)
      | (apply as_unOp; exact OpR_not rfl is_rfl)
      | (apply as_pick; exact OpR_pick_f rfl gb rfl is_rfl)
      | (apply as_b_len; exact OpR_len rfl is_rfl)
      | (apply as_extract; exact OpR_extract rfl rfl is_rfl)
      | (apply as_b_min; exact OpR_min rfl rfl is_rfl)
      | (apply as_indexAddr; exact OpR_indexAddr_arr' rfl rfl (by omega) (by omega) (by first | (simp only [Int.reduceToNat, Nat.reduceMul, Nat.reduceAdd]; exact rfl) | exact rfl) is_rfl)); first | (exact rfl; exact rfl) | exact rfl)
            | (apply J_seq)
            | (apply J_region)
            | (apply J_block)
            | (apply J_skip)
            | (apply al_none (t := 5); refine JL_o (by apply as_box; exact OpR_box' hs rfl) rfl rfl ?_; rintro _ _ ⟨b5, rfl, hb5, hs, hE⟩)
            | (apply aj_cond; refine J_cond_f rfl gb ?_)
            | (apply aj_draw; (refine J_drawX (id := 4) [0, 1, 0, 4, 12, 28, 63, 127, 0, 256, 0, 1024, 3072, 7168, 16128, 32767, 65535, 131071] [(0, 0), (1, 0), (2, 0), (3, 0), (4, 0), (5, 0), (6, 0), (8, 0), (9, 0), (10, 0), (11, 0), (12, 0), (13, 0), (14, 0), (7, 1), (15, 1), (16, 0), (17, 0)] [] hs mixed (by kernel_rfl) (by kernel_rfl) (by kernel_rfl) (by kernel_rfl) (by kernel_rfl) ?_))
            | (refine JX_done (fun W hs => ?_))
            | (apply JD_done))
          refine J_loopK (α := Nat × List HH × Int × Option Addr × Nat) [(0, _), (1, _), (7, _), (8, _), (9, _), (10, _), (11, _), (50, _), (51, _)] (fun g => [(12, .int .i64 g.2.2.1), (13, .slice g.2.2.2.1 g.2.1.length g.2.2.2.2), (52, .int .i64 g.1)]) (fun g w' => St w NoF w' [RowH g.2.2.2.1 g.2.1.length g.2.2.2.2 g.2.1, TabQ a6 qn.length c6 (qn.map rawQ), OwnQ qn, RowU a32 q2 c32 is_, RowU a24 q1 c24 was, TabQ a5 qs.length c5 (qs.map rawQ), OwnQ qs] ∧ RelM (runM false x (E, 0) (pairsM (was.take g.1) is_)) g.2.1 g.2.2.1 ∧ (∀ y ∈ g.2.1, okH y) ∧ g.2.1.length ≤ 1800 ∧ g.1 ≤ q1) (fun g => q1 - g.1) (0, A0, 0, aa, ca) ⟨hs.sel [0, 1, 2, 3, 4, 5, 6] (by decide), ⟨rfl, fun _ => ⟨hR, hA0.symm⟩⟩, hA0o, hA0l, Nat.zero_le _⟩ (by repeat' (first | exact trivial | exact rfl | apply And.intro)) ?_
          rintro ⟨k, A, no, aa, ca⟩ w2 ⟨hs1, hrel, hAo, hAl, hk⟩ ih
          dsimp only at hs1 hrel hAo hAl hk ih ⊢
          by_cases hlt : k < q1
          · obtain ⟨b, o, hab⟩ := (hs1.row a24 q1 c24).some (by omega)
            subst hab
            have hs : St w NoF w2 [_, _, _, _, _, _, _] := hs1
            have hv : was[k]? = some (was[k]'(by omega)) := List.getElem?_eq_getElem (by omega)
            obtain ⟨i, hid⟩ : ∃ i, i = was[k]'(by omega) := ⟨_, rfl⟩
            rw [← hid] at hv
            have hiu : okId i := hwo i (List.mem_of_getElem? hv)
            have hio2 : okH (x, i) := ⟨hx, hiu⟩
            by_cases hn0 : no = 0
            · subst hn0
              have hr2 : (runM false x (E, 0) (pairsM (was.take k) is_)).2 = 0 := hrel.1.symm
              by_cases hki : kindM i = 3
              · have hki2 : ¬ (kindM i ≠ 3) := fun e => e hki
                by_cases hot : i ∈ is_
                · have hob : decide (i ∈ is_) = true := decide_eq_true hot
                  repeat' (first
                    | ((apply al_callg 28; refine JL_o_on rfl gb (by exact OpR_callF en28 rfl (kindR_r _ i hiu)) rfl rfl ?_; rintro _ _ ⟨rfl, hE⟩; have hs := hs.ext hE; (try simp only [List.cons_append, List.nil_append] at hs)))
                    | ((apply al_callg 29; refine JL_o_on rfl gb (by exact OpR_callF en29 rfl (hasId_r _ a32 q2 c32 is_ i (slU hs (by repeat (first | exact List.Mem.head _ | apply List.Mem.tail)) hio))) rfl rfl ?_; rintro _ _ ⟨rfl, hE⟩; rw [hob]; have hs := hs.ext hE; (try simp only [List.cons_append, List.nil_append] at hs)))
                    | (apply JL_nil)
                    | ((first | (apply JL_pure) | (apply JL_pure_on; exact rfl; exact gb)); (first
      | (apply as_load; first | exact OpR_load1N (off := k * 1) (n := q1) (c := c24) hs rfl (cell_id hv) is_rfl | exact OpR_load' hs rfl rfl is_rfl | exact OpR_load_agg' hs rfl is_rfl)
      | (apply as_move; exact OpR_move rfl is_rfl)
      | (apply as_assign; exact OpR_assign rfl is_rfl)
      | (apply as_add; exact OpR_addn rfl rfl (by omega) (by first | (simp only [Int.reduceAdd]; exact rfl) | exact rfl) is_rfl)
      | (apply as_binOp; exact OpR_ibin rfl rfl rfl is_rfl)
      | (apply as_pick; exact OpR_pick_f rfl gb rfl is_rfl)
      | (apply as_indexAddr; exact OpR_indexAddr rfl rfl (by omega) (by omega) is_rfl)
      | (apply as_build; exact OpR_build rfl (by (simp only [bld, placesOf, splice, Value.cells, List.take_succ_cons, List.take_zero, List.drop_succ_cons, List.drop_zero, List.cons_append, List.nil_append, List.length_cons, List.length_nil, List.getElem?_cons_zero, List.getElem?_cons_succ, Option.map_some, List.append_nil, Nat.reduceAdd, Nat.reduceMul, Nat.zero_add, Nat.reduceLeDiff, and_self, if_true, List.toList_toArray, Nat.le_refl, Nat.zero_mul, Nat.one_mul]; first | done | rfl)) is_rfl)); first | (exact rfl; exact rfl) | exact rfl)
                    | (apply J_seq)
                    | (apply J_region)
                    | (apply J_block)
                    | (apply aj_exit; refine J_exit rfl ?_)
                    | (apply J_skip)
                    | (apply al_none (t := 16); refine JL_o (by apply as_alloc; exact OpR_alloc' hs) rfl rfl ?_; rintro _ _ ⟨b16, rfl, hb16, hs, hE⟩)
                    | (apply al_unit; refine JL_u (by apply as_store; exact OpR_store' hs rfl rfl rfl) rfl ?_; rintro _ _ ⟨hs, hF⟩)
                    | (apply aj_cond; first | refine J_dec_t rfl ob ?_ | refine J_cond_t rfl gb ?_))
                  refine ih (k + 1, A, 0, aa, ca) _ _ ⟨hs.sel [1, 2, 3, 4, 5, 6, 7] (by decide), by dsimp only; rw [run_skip hv (fun e => e.2 hot)]; exact hrel, hAo, by dsimp only; omega, hlt⟩ (by show q1 - (k + 1) < q1 - k; omega) (by repeat' (first | exact trivial | exact rfl | apply And.intro))
                · have hob : decide (i ∈ is_) = false := decide_eq_false hot
                  by_cases hin : (x, i) ∈ A
                  · have hind : decide ((x, i) ∈ A) = true := decide_eq_true hin
                    repeat' (first
                      | ((apply al_callg 28; refine JL_o_on rfl gb (by exact OpR_callF en28 rfl (kindR_r _ i hiu)) rfl rfl ?_; rintro _ _ ⟨rfl, hE⟩; have hs := hs.ext hE; (try simp only [List.cons_append, List.nil_append] at hs)))
                      | ((apply al_callg 29; refine JL_o_on rfl gb (by exact OpR_callF en29 rfl (hasId_r _ a32 q2 c32 is_ i (slU hs (by repeat (first | exact List.Mem.head _ | apply List.Mem.tail)) hio))) rfl rfl ?_; rintro _ _ ⟨rfl, hE⟩; rw [hob]; have hs := hs.ext hE; (try simp only [List.cons_append, List.nil_append] at hs)))
                      | ((apply al_call 17; refine JL_o (by exact OpR_callF en17 rfl (has15_r _ aa A.length ca A (x, i) (slH hs (by repeat (first | exact List.Mem.head _ | apply List.Mem.tail)) hAo))) rfl rfl ?_; rintro _ _ ⟨rfl, hE⟩; rw [hind]; have hs := hs.ext hE; (try simp only [List.cons_append, List.nil_append] at hs)))
                      | ((apply al_call 20; refine JL_o (by exact OpR_callF en20 rfl (without15_r _ aa A.length ca A (x, i) (slH hs (by repeat (first | exact List.Mem.head _ | apply List.Mem.tail)) hAo) (by omega))) rfl rfl ?_; rintro _ _ ⟨ax, cx, rfl, hf⟩; have hs := hs.fresh hf; (try simp only [List.cons_append, List.nil_append] at hs)))
                      | (apply JL_nil)
                      | ((first | (apply JL_pure) | (apply JL_pure_on; exact rfl; exact gb)); (first
      | (apply as_load; first | exact OpR_load1N (off := k * 1) (n := q1) (c := c24) hs rfl (cell_id hv) is_rfl | exact OpR_load' hs rfl rfl is_rfl | exact OpR_load_agg' hs rfl is_rfl)
      | (apply as_move; exact OpR_move rfl is_rfl)
      | (apply as_assign; exact OpR_assign rfl is_rfl)
      | (apply as_add; exact OpR_addn rfl rfl (by omega) (by first | (simp only [Int.reduceAdd]; exact rfl) | exact rfl) is_rfl)
      | (apply as_binOp; exact OpR_ibin rfl rfl rfl is_rfl)
      | (apply as_unOp; exact OpR_not rfl is_rfl)
      | (apply as_pick; exact OpR_pick_f rfl gb rfl is_rfl)
      | (apply as_indexAddr; exact OpR_indexAddr rfl rfl (by omega) (by omega) is_rfl)
      | (apply as_build; exact OpR_build rfl (by (simp only [bld, placesOf, splice, Value.cells, List.take_succ_cons, List.take_zero, List.drop_succ_cons, List.drop_zero, List.cons_append, List.nil_append, List.length_cons, List.length_nil, List.getElem?_cons_zero, List.getElem?_cons_succ, Option.map_some, List.append_nil, Nat.reduceAdd, Nat.reduceMul, Nat.zero_add, Nat.reduceLeDiff, and_self, if_true, List.toList_toArray, Nat.le_refl, Nat.zero_mul, Nat.one_mul]; first | done | rfl)) is_rfl)); first | (exact rfl; exact rfl) | exact rfl)
                      | (apply J_seq)
                      | (apply J_region)
                      | (apply J_block)
                      | (apply J_inBlock)
                      | (apply J_skip)
                      | (apply al_none (t := 16); refine JL_o (by apply as_alloc; exact OpR_alloc' hs) rfl rfl ?_; rintro _ _ ⟨b16, rfl, hb16, hs, hE⟩)
                      | (apply al_unit; refine JL_u (by apply as_store; exact OpR_store' hs rfl rfl rfl) rfl ?_; rintro _ _ ⟨hs, hF⟩)
                      | (apply aj_cond; first | refine J_dec_t rfl ob ?_ | refine J_cond_f rfl gb ?_))
                    refine ih (k + 1, withoutH A (x, i), 0, ax, cx) _ _ ⟨hs.sel [0, 3, 4, 5, 6, 7, 8] (by decide), by dsimp only; rw [run_do hv ⟨hki, hot⟩]; exact rel_drop hrel (hmay i hki) hin, fun y hy => hAo y (withoutH_mem.1 hy).1, Nat.le_trans (withoutH_len A (x, i)) hAl, hlt⟩ (by show q1 - (k + 1) < q1 - k; omega) (by repeat' (first | exact trivial | exact rfl | apply And.intro))
                  · have hind : decide ((x, i) ∈ A) = false := decide_eq_false hin
                    repeat' (first
                      | ((apply al_callg 28; refine JL_o_on rfl gb (by exact OpR_callF en28 rfl (kindR_r _ i hiu)) rfl rfl ?_; rintro _ _ ⟨rfl, hE⟩; have hs := hs.ext hE; (try simp only [List.cons_append, List.nil_append] at hs)))
                      | ((apply al_callg 29; refine JL_o_on rfl gb (by exact OpR_callF en29 rfl (hasId_r _ a32 q2 c32 is_ i (slU hs (by repeat (first | exact List.Mem.head _ | apply List.Mem.tail)) hio))) rfl rfl ?_; rintro _ _ ⟨rfl, hE⟩; rw [hob]; have hs := hs.ext hE; (try simp only [List.cons_append, List.nil_append] at hs)))
                      | ((apply al_call 17; refine JL_o (by exact OpR_callF en17 rfl (has15_r _ aa A.length ca A (x, i) (slH hs (by repeat (first | exact List.Mem.head _ | apply List.Mem.tail)) hAo))) rfl rfl ?_; rintro _ _ ⟨rfl, hE⟩; rw [hind]; have hs := hs.ext hE; (try simp only [List.cons_append, List.nil_append] at hs)))
                      | ((apply al_call 20; refine JL_o (by exact OpR_callF en20 rfl (without15_r _ aa A.length ca A (x, i) (slH hs (by repeat (first | exact List.Mem.head _ | apply List.Mem.tail)) hAo) (by omega))) rfl rfl ?_; rintro _ _ ⟨ax, cx, rfl, hf⟩; have hs := hs.fresh hf; (try simp only [List.cons_append, List.nil_append] at hs)))
                      | (apply JL_nil)
                      | ((first | (apply JL_pure) | (apply JL_pure_on; exact rfl; exact gb)); (first
      | (apply as_load; first | exact OpR_load1N (off := k * 1) (n := q1) (c := c24) hs rfl (cell_id hv) is_rfl | exact OpR_load' hs rfl rfl is_rfl | exact OpR_load_agg' hs rfl is_rfl)
      | (apply as_move; exact OpR_move rfl is_rfl)
      | (apply as_assign; exact OpR_assign rfl is_rfl)
      | (apply as_add; exact OpR_addn rfl rfl (by omega) (by first | (simp only [Int.reduceAdd]; exact rfl) | exact rfl) is_rfl)
      | (apply as_binOp; exact OpR_ibin rfl rfl rfl is_rfl)
      | (apply as_unOp; exact OpR_not rfl is_rfl)
      | (apply as_pick; exact OpR_pick_f rfl gb rfl is_rfl)
      | (apply as_indexAddr; exact OpR_indexAddr rfl rfl (by omega) (by omega) is_rfl)
      | (apply as_build; exact OpR_build rfl (by (simp only [bld, placesOf, splice, Value.cells, List.take_succ_cons, List.take_zero, List.drop_succ_cons, List.drop_zero, List.cons_append, List.nil_append, List.length_cons, List.length_nil, List.getElem?_cons_zero, List.getElem?_cons_succ, Option.map_some, List.append_nil, Nat.reduceAdd, Nat.reduceMul, Nat.zero_add, Nat.reduceLeDiff, and_self, if_true, List.toList_toArray, Nat.le_refl, Nat.zero_mul, Nat.one_mul]; first | done | rfl)) is_rfl)); first | (exact rfl; exact rfl) | exact rfl)
                      | (apply J_seq)
                      | (apply J_region)
                      | (apply J_block)
                      | (apply J_inBlock)
                      | (apply J_skip)
                      | (apply al_none (t := 16); refine JL_o (by apply as_alloc; exact OpR_alloc' hs) rfl rfl ?_; rintro _ _ ⟨b16, rfl, hb16, hs, hE⟩)
                      | (apply al_unit; refine JL_u (by apply as_store; exact OpR_store' hs rfl rfl rfl) rfl ?_; rintro _ _ ⟨hs, hF⟩)
                      | (apply aj_cond; first | refine J_dec_t rfl ob ?_ | refine J_cond_t rfl gb ?_ | refine J_cond_f rfl gb ?_))
                    refine ih (k + 1, withoutH A (x, i), 4, ax, cx) _ _ ⟨hs.sel [0, 3, 4, 5, 6, 7, 8] (by decide), by dsimp only; rw [run_do hv ⟨hki, hot⟩]; exact rel_dropno hrel (hmay i hki) hin, fun y hy => hAo y (withoutH_mem.1 hy).1, Nat.le_trans (withoutH_len A (x, i)) hAl, hlt⟩ (by show q1 - (k + 1) < q1 - k; omega) (by repeat' (first | exact trivial | exact rfl | apply And.intro))
              · repeat' (first
                  | ((apply al_callg 28; refine JL_o_on rfl gb (by exact OpR_callF en28 rfl (kindR_r _ i hiu)) rfl rfl ?_; rintro _ _ ⟨rfl, hE⟩; have hs := hs.ext hE; (try simp only [List.cons_append, List.nil_append] at hs)))
                  | (apply JL_nil)
                  | ((first | (apply JL_pure) | (apply JL_pure_on; exact rfl; exact gb)); (first
      | (apply as_load; first | exact OpR_load1N (off := k * 1) (n := q1) (c := c24) hs rfl (cell_id hv) is_rfl | exact OpR_load' hs rfl rfl is_rfl | exact OpR_load_agg' hs rfl is_rfl)
      | (apply as_move; exact OpR_move rfl is_rfl)
      | (apply as_assign; exact OpR_assign rfl is_rfl)
      | (apply as_add; exact OpR_addn rfl rfl (by omega) (by first | (simp only [Int.reduceAdd]; exact rfl) | exact rfl) is_rfl)
      | (apply as_binOp; exact OpR_ibin rfl rfl rfl is_rfl)
      | (apply as_pick; first | exact OpR_pick_t rfl gb rfl is_rfl | exact OpR_pick_f rfl gb rfl is_rfl)
      | (apply as_indexAddr; exact OpR_indexAddr rfl rfl (by omega) (by omega) is_rfl)
      | (apply as_build; exact OpR_build rfl (by (simp only [bld, placesOf, splice, Value.cells, List.take_succ_cons, List.take_zero, List.drop_succ_cons, List.drop_zero, List.cons_append, List.nil_append, List.length_cons, List.length_nil, List.getElem?_cons_zero, List.getElem?_cons_succ, Option.map_some, List.append_nil, Nat.reduceAdd, Nat.reduceMul, Nat.zero_add, Nat.reduceLeDiff, and_self, if_true, List.toList_toArray, Nat.le_refl, Nat.zero_mul, Nat.one_mul]; first | done | rfl)) is_rfl)); first | (exact rfl; exact rfl) | exact rfl)
                  | (apply J_seq)
                  | (apply J_region)
                  | (apply J_block)
                  | (apply aj_exit; refine J_exit rfl ?_)
                  | (apply J_skip)
                  | (apply al_none (t := 16); refine JL_o (by apply as_alloc; exact OpR_alloc' hs) rfl rfl ?_; rintro _ _ ⟨b16, rfl, hb16, hs, hE⟩)
                  | (apply al_unit; refine JL_u (by apply as_store; exact OpR_store' hs rfl rfl rfl) rfl ?_; rintro _ _ ⟨hs, hF⟩)
                  | (apply al_guard; (refine JL_no rfl gb rfl ?_))
                  | (apply aj_cond; first | refine J_dec_t rfl ob ?_ | refine J_cond_t rfl gb ?_))
                refine ih (k + 1, A, 0, aa, ca) _ _ ⟨hs.sel [1, 2, 3, 4, 5, 6, 7] (by decide), by dsimp only; rw [run_skip hv (fun e => hki e.1)]; exact hrel, hAo, by dsimp only; omega, hlt⟩ (by show q1 - (k + 1) < q1 - k; omega) (by repeat' (first | exact trivial | exact rfl | apply And.intro))
            · repeat' (first
                | (apply JL_nil)
                | ((apply JL_pure); (first
      | (apply as_load; first | exact OpR_load1N (off := k * 1) (n := q1) (c := c24) hs rfl (cell_id hv) is_rfl | exact OpR_load' hs rfl rfl is_rfl | exact OpR_load_agg' hs rfl is_rfl)
      | (apply as_move; exact OpR_move rfl is_rfl)
      | (apply as_assign; exact OpR_assign rfl is_rfl)
      | (apply as_add; exact OpR_addn rfl rfl (by omega) (by first | (simp only [Int.reduceAdd]; exact rfl) | exact rfl) is_rfl)
      | (apply as_binOp; exact OpR_ibin rfl rfl rfl is_rfl)
      | (apply as_pick; exact OpR_pick_t rfl gb rfl is_rfl)
      | (apply as_indexAddr; exact OpR_indexAddr rfl rfl (by omega) (by omega) is_rfl)
      | (apply as_build; exact OpR_build rfl (by (simp only [bld, placesOf, splice, Value.cells, List.take_succ_cons, List.take_zero, List.drop_succ_cons, List.drop_zero, List.cons_append, List.nil_append, List.length_cons, List.length_nil, List.getElem?_cons_zero, List.getElem?_cons_succ, Option.map_some, List.append_nil, Nat.reduceAdd, Nat.reduceMul, Nat.zero_add, Nat.reduceLeDiff, and_self, if_true, List.toList_toArray, Nat.le_refl, Nat.zero_mul, Nat.one_mul]; first | done | rfl)) is_rfl)); first | (exact rfl; exact rfl) | exact rfl)
                | (apply J_seq)
                | (apply J_region)
                | (apply J_block)
                | (apply aj_exit; refine J_exit rfl ?_)
                | (apply J_skip)
                | (apply al_none (t := 16); refine JL_o (by apply as_alloc; exact OpR_alloc' hs) rfl rfl ?_; rintro _ _ ⟨b16, rfl, hb16, hs, hE⟩)
                | (apply al_unit; refine JL_u (by apply as_store; exact OpR_store' hs rfl rfl rfl) rfl ?_; rintro _ _ ⟨hs, hF⟩)
                | (apply al_guard; (refine JL_no rfl gb rfl ?_))
                | (apply aj_cond; first | refine J_dec_t rfl ob ?_ | refine J_cond_t rfl gb ?_))
              refine ih (k + 1, A, no, aa, ca) _ _ ⟨hs.sel [1, 2, 3, 4, 5, 6, 7] (by decide), by dsimp only; rw [run_stay hv (by rw [← hrel.1]; exact hn0)]; exact hrel, hAo, by dsimp only; omega, hlt⟩ (by show q1 - (k + 1) < q1 - k; omega) (by repeat' (first | exact trivial | exact rfl | apply And.intro))
          · have hs : St w NoF w2 [_, _, _, _, _, _, _] := hs1
            rw [List.take_of_length_le (by omega), ← hS1] at hrel
            repeat' (first
              | (apply JL_nil)
              | ((apply JL_pure); (first
      | (apply as_move; exact OpR_move rfl is_rfl)
      | (apply as_binOp; exact OpR_ibin rfl rfl rfl is_rfl)
      | (apply as_b_len; exact OpR_len rfl is_rfl)); first | (exact rfl; exact rfl) | exact rfl)
              | (apply J_seq)
              | (apply J_region)
              | (apply J_block)
              | (apply aj_exit; refine J_exit rfl ?_)
              | (apply aj_cond; refine J_dec_f rfl ob ?_))
            refine J_loopK (α := Nat × List HH × Int × Option Addr × Nat) [(0, _), (1, _), (7, _), (8, _), (10, _), (11, _), (79, _), (80, _)] (fun g => [(12, .int .i64 g.2.2.1), (13, .slice g.2.2.2.1 g.2.1.length g.2.2.2.2), (81, .int .i64 g.1)]) (fun g w' => St w NoF w' [RowH g.2.2.2.1 g.2.1.length g.2.2.2.2 g.2.1, TabQ a6 qn.length c6 (qn.map rawQ), OwnQ qn, RowU a32 q2 c32 is_, RowU a24 q1 c24 was, TabQ a5 qs.length c5 (qs.map rawQ), OwnQ qs] ∧ RelM (runM true x S1 (pairsM (is_.take g.1) was)) g.2.1 g.2.2.1 ∧ (∀ y ∈ g.2.1, okH y) ∧ g.2.1.length ≤ 1800 + g.1 ∧ g.1 ≤ q2) (fun g => q2 - g.1) (0, A, no, aa, ca) ⟨hs, hrel, hAo, by dsimp only; omega, Nat.zero_le _⟩ (by repeat' (first | exact trivial | exact rfl | apply And.intro)) ?_
            rintro ⟨k, A, no, aa, ca⟩ w4 ⟨hs1, hrel, hAo, hAl, hk⟩ ih2
            dsimp only at hs1 hrel hAo hAl hk ih2 ⊢
            by_cases hlt : k < q2
            · obtain ⟨b, o, hab⟩ := (hs1.row a32 q2 c32).some (by omega)
              subst hab
              have hs : St w NoF w4 [_, _, _, _, _, _, _] := hs1
              have hv : is_[k]? = some (is_[k]'(by omega)) := List.getElem?_eq_getElem (by omega)
              obtain ⟨i, hid⟩ : ∃ i, i = is_[k]'(by omega) := ⟨_, rfl⟩
              rw [← hid] at hv
              have hiu : okId i := hio i (List.mem_of_getElem? hv)
              have hio2 : okH (x, i) := ⟨hx, hiu⟩
              by_cases hn0 : no = 0
              · subst hn0
                have hr2 : (runM true x S1 (pairsM (is_.take k) was)).2 = 0 := hrel.1.symm
                by_cases hki : kindM i = 3
                · have hki2 : ¬ (kindM i ≠ 3) := fun e => e hki
                  by_cases hot : i ∈ was
                  · have hob : decide (i ∈ was) = true := decide_eq_true hot
                    repeat' (first
                      | ((apply al_callg 28; refine JL_o_on rfl gb (by exact OpR_callF en28 rfl (kindR_r _ i hiu)) rfl rfl ?_; rintro _ _ ⟨rfl, hE⟩; have hs := hs.ext hE; (try simp only [List.cons_append, List.nil_append] at hs)))
                      | ((apply al_callg 29; refine JL_o_on rfl gb (by exact OpR_callF en29 rfl (hasId_r _ a24 q1 c24 was i (slU hs (by repeat (first | exact List.Mem.head _ | apply List.Mem.tail)) hwo))) rfl rfl ?_; rintro _ _ ⟨rfl, hE⟩; rw [hob]; have hs := hs.ext hE; (try simp only [List.cons_append, List.nil_append] at hs)))
                      | (apply JL_nil)
                      | ((first | (apply JL_pure) | (apply JL_pure_on; exact rfl; exact gb)); (first
      | (apply as_load; first | exact OpR_load1N (off := k * 1) (n := q2) (c := c32) hs rfl (cell_id hv) is_rfl | exact OpR_load' hs rfl rfl is_rfl | exact OpR_load_agg' hs rfl is_rfl)
      | (apply as_move; exact OpR_move rfl is_rfl)
      | (apply as_assign; exact OpR_assign rfl is_rfl)
      | (apply as_add; exact OpR_addn rfl rfl (by omega) (by first | (simp only [Int.reduceAdd]; exact rfl) | exact rfl) is_rfl)
      | (apply as_binOp; exact OpR_ibin rfl rfl rfl is_rfl)
      | (apply as_pick; exact OpR_pick_f rfl gb rfl is_rfl)
      | (apply as_indexAddr; exact OpR_indexAddr rfl rfl (by omega) (by omega) is_rfl)
      | (apply as_build; exact OpR_build rfl (by (simp only [bld, placesOf, splice, Value.cells, List.take_succ_cons, List.take_zero, List.drop_succ_cons, List.drop_zero, List.cons_append, List.nil_append, List.length_cons, List.length_nil, List.getElem?_cons_zero, List.getElem?_cons_succ, Option.map_some, List.append_nil, Nat.reduceAdd, Nat.reduceMul, Nat.zero_add, Nat.reduceLeDiff, and_self, if_true, List.toList_toArray, Nat.le_refl, Nat.zero_mul, Nat.one_mul]; first | done | rfl)) is_rfl)); first | (exact rfl; exact rfl) | exact rfl)
                      | (apply J_seq)
                      | (apply J_region)
                      | (apply J_block)
                      | (apply aj_exit; refine J_exit rfl ?_)
                      | (apply J_skip)
                      | (apply al_none (t := 19); refine JL_o (by apply as_alloc; exact OpR_alloc' hs) rfl rfl ?_; rintro _ _ ⟨b19, rfl, hb19, hs, hE⟩)
                      | (apply al_unit; refine JL_u (by apply as_store; exact OpR_store' hs rfl rfl rfl) rfl ?_; rintro _ _ ⟨hs, hF⟩)
                      | (apply aj_cond; first | refine J_dec_t rfl ob ?_ | refine J_cond_t rfl gb ?_))
                    refine ih2 (k + 1, A, 0, aa, ca) _ _ ⟨hs.sel [1, 2, 3, 4, 5, 6, 7] (by decide), by dsimp only; rw [run_skip hv (fun e => e.2 hot)]; exact hrel, hAo, by dsimp only; omega, hlt⟩ (by show q2 - (k + 1) < q2 - k; omega) (by repeat' (first | exact trivial | exact rfl | apply And.intro))
                  · have hob : decide (i ∈ was) = false := decide_eq_false hot
                    by_cases hin : (x, i) ∈ A
                    · have hind : decide ((x, i) ∈ A) = true := decide_eq_true hin
                      repeat' (first
                        | ((apply al_callg 28; refine JL_o_on rfl gb (by exact OpR_callF en28 rfl (kindR_r _ i hiu)) rfl rfl ?_; rintro _ _ ⟨rfl, hE⟩; have hs := hs.ext hE; (try simp only [List.cons_append, List.nil_append] at hs)))
                        | ((apply al_callg 29; refine JL_o_on rfl gb (by exact OpR_callF en29 rfl (hasId_r _ a24 q1 c24 was i (slU hs (by repeat (first | exact List.Mem.head _ | apply List.Mem.tail)) hwo))) rfl rfl ?_; rintro _ _ ⟨rfl, hE⟩; rw [hob]; have hs := hs.ext hE; (try simp only [List.cons_append, List.nil_append] at hs)))
                        | ((apply al_call 17; refine JL_o (by exact OpR_callF en17 rfl (has15_r _ aa A.length ca A (x, i) (slH hs (by repeat (first | exact List.Mem.head _ | apply List.Mem.tail)) hAo))) rfl rfl ?_; rintro _ _ ⟨rfl, hE⟩; rw [hind]; have hs := hs.ext hE; (try simp only [List.cons_append, List.nil_append] at hs)))
                        | ((apply al_call 19; refine JL_o (by exact OpR_callF en19 rfl (with15_r _ aa A.length ca A (x, i) (slH hs (by repeat (first | exact List.Mem.head _ | apply List.Mem.tail)) hAo) (by omega))) rfl rfl ?_; rintro _ _ ⟨ax, cx, rfl, hf⟩; have hs := hs.fresh hf; (try simp only [List.cons_append, List.nil_append] at hs)))
                        | (apply JL_nil)
                        | ((first | (apply JL_pure) | (apply JL_pure_on; exact rfl; exact gb)); (first
      | (apply as_load; first | exact OpR_load1N (off := k * 1) (n := q2) (c := c32) hs rfl (cell_id hv) is_rfl | exact OpR_load' hs rfl rfl is_rfl | exact OpR_load_agg' hs rfl is_rfl)
      | (apply as_move; exact OpR_move rfl is_rfl)
      | (apply as_assign; exact OpR_assign rfl is_rfl)
      | (apply as_add; exact OpR_addn rfl rfl (by omega) (by first | (simp only [Int.reduceAdd]; exact rfl) | exact rfl) is_rfl)
      | (apply as_binOp; exact OpR_ibin rfl rfl rfl is_rfl)
      | (apply as_pick; exact OpR_pick_f rfl gb rfl is_rfl)
      | (apply as_indexAddr; exact OpR_indexAddr rfl rfl (by omega) (by omega) is_rfl)
      | (apply as_build; exact OpR_build rfl (by (simp only [bld, placesOf, splice, Value.cells, List.take_succ_cons, List.take_zero, List.drop_succ_cons, List.drop_zero, List.cons_append, List.nil_append, List.length_cons, List.length_nil, List.getElem?_cons_zero, List.getElem?_cons_succ, Option.map_some, List.append_nil, Nat.reduceAdd, Nat.reduceMul, Nat.zero_add, Nat.reduceLeDiff, and_self, if_true, List.toList_toArray, Nat.le_refl, Nat.zero_mul, Nat.one_mul]; first | done | rfl)) is_rfl)); first | (exact rfl; exact rfl) | exact rfl)
                        | (apply J_seq)
                        | (apply J_region)
                        | (apply J_block)
                        | (apply J_inBlock)
                        | (apply J_skip)
                        | (apply al_none (t := 19); refine JL_o (by apply as_alloc; exact OpR_alloc' hs) rfl rfl ?_; rintro _ _ ⟨b19, rfl, hb19, hs, hE⟩)
                        | (apply al_unit; refine JL_u (by apply as_store; exact OpR_store' hs rfl rfl rfl) rfl ?_; rintro _ _ ⟨hs, hF⟩)
                        | (apply aj_cond; first | refine J_dec_t rfl ob ?_ | refine J_cond_t rfl gb ?_ | refine J_cond_f rfl gb ?_))
                      refine ih2 (k + 1, withH A (x, i), 5, ax, cx) _ _ ⟨hs.sel [0, 3, 4, 5, 6, 7, 8] (by decide), by dsimp only; rw [run_do hv ⟨hki, hot⟩]; exact rel_putno hrel (hmay i hki) hin, withH_ok hAo hio2, by have := withH_len' A (x, i); dsimp only; omega, hlt⟩ (by show q2 - (k + 1) < q2 - k; omega) (by repeat' (first | exact trivial | exact rfl | apply And.intro))
                    · have hind : decide ((x, i) ∈ A) = false := decide_eq_false hin
                      repeat' (first
                        | ((apply al_callg 28; refine JL_o_on rfl gb (by exact OpR_callF en28 rfl (kindR_r _ i hiu)) rfl rfl ?_; rintro _ _ ⟨rfl, hE⟩; have hs := hs.ext hE; (try simp only [List.cons_append, List.nil_append] at hs)))
                        | ((apply al_callg 29; refine JL_o_on rfl gb (by exact OpR_callF en29 rfl (hasId_r _ a24 q1 c24 was i (slU hs (by repeat (first | exact List.Mem.head _ | apply List.Mem.tail)) hwo))) rfl rfl ?_; rintro _ _ ⟨rfl, hE⟩; rw [hob]; have hs := hs.ext hE; (try simp only [List.cons_append, List.nil_append] at hs)))
                        | ((apply al_call 17; refine JL_o (by exact OpR_callF en17 rfl (has15_r _ aa A.length ca A (x, i) (slH hs (by repeat (first | exact List.Mem.head _ | apply List.Mem.tail)) hAo))) rfl rfl ?_; rintro _ _ ⟨rfl, hE⟩; rw [hind]; have hs := hs.ext hE; (try simp only [List.cons_append, List.nil_append] at hs)))
                        | ((apply al_call 19; refine JL_o (by exact OpR_callF en19 rfl (with15_r _ aa A.length ca A (x, i) (slH hs (by repeat (first | exact List.Mem.head _ | apply List.Mem.tail)) hAo) (by omega))) rfl rfl ?_; rintro _ _ ⟨ax, cx, rfl, hf⟩; have hs := hs.fresh hf; (try simp only [List.cons_append, List.nil_append] at hs)))
                        | (apply JL_nil)
                        | ((first | (apply JL_pure) | (apply JL_pure_on; exact rfl; exact gb)); (first
      | (apply as_load; first | exact OpR_load1N (off := k * 1) (n := q2) (c := c32) hs rfl (cell_id hv) is_rfl | exact OpR_load' hs rfl rfl is_rfl | exact OpR_load_agg' hs rfl is_rfl)
      | (apply as_move; exact OpR_move rfl is_rfl)
      | (apply as_assign; exact OpR_assign rfl is_rfl)
      | (apply as_add; exact OpR_addn rfl rfl (by omega) (by first | (simp only [Int.reduceAdd]; exact rfl) | exact rfl) is_rfl)
      | (apply as_binOp; exact OpR_ibin rfl rfl rfl is_rfl)
      | (apply as_pick; exact OpR_pick_f rfl gb rfl is_rfl)
      | (apply as_indexAddr; exact OpR_indexAddr rfl rfl (by omega) (by omega) is_rfl)
      | (apply as_build; exact OpR_build rfl (by (simp only [bld, placesOf, splice, Value.cells, List.take_succ_cons, List.take_zero, List.drop_succ_cons, List.drop_zero, List.cons_append, List.nil_append, List.length_cons, List.length_nil, List.getElem?_cons_zero, List.getElem?_cons_succ, Option.map_some, List.append_nil, Nat.reduceAdd, Nat.reduceMul, Nat.zero_add, Nat.reduceLeDiff, and_self, if_true, List.toList_toArray, Nat.le_refl, Nat.zero_mul, Nat.one_mul]; first | done | rfl)) is_rfl)); first | (exact rfl; exact rfl) | exact rfl)
                        | (apply J_seq)
                        | (apply J_region)
                        | (apply J_block)
                        | (apply J_inBlock)
                        | (apply J_skip)
                        | (apply al_none (t := 19); refine JL_o (by apply as_alloc; exact OpR_alloc' hs) rfl rfl ?_; rintro _ _ ⟨b19, rfl, hb19, hs, hE⟩)
                        | (apply al_unit; refine JL_u (by apply as_store; exact OpR_store' hs rfl rfl rfl) rfl ?_; rintro _ _ ⟨hs, hF⟩)
                        | (apply aj_cond; first | refine J_dec_t rfl ob ?_ | refine J_cond_f rfl gb ?_))
                      refine ih2 (k + 1, withH A (x, i), 0, ax, cx) _ _ ⟨hs.sel [0, 3, 4, 5, 6, 7, 8] (by decide), by dsimp only; rw [run_do hv ⟨hki, hot⟩]; exact rel_put hrel (hmay i hki) hin (by omega), withH_ok hAo hio2, by have := withH_len' A (x, i); dsimp only; omega, hlt⟩ (by show q2 - (k + 1) < q2 - k; omega) (by repeat' (first | exact trivial | exact rfl | apply And.intro))
                · repeat' (first
                    | ((apply al_callg 28; refine JL_o_on rfl gb (by exact OpR_callF en28 rfl (kindR_r _ i hiu)) rfl rfl ?_; rintro _ _ ⟨rfl, hE⟩; have hs := hs.ext hE; (try simp only [List.cons_append, List.nil_append] at hs)))
                    | (apply JL_nil)
                    | ((first | (apply JL_pure) | (apply JL_pure_on; exact rfl; exact gb)); (first
      | (apply as_load; first | exact OpR_load1N (off := k * 1) (n := q2) (c := c32) hs rfl (cell_id hv) is_rfl | exact OpR_load' hs rfl rfl is_rfl | exact OpR_load_agg' hs rfl is_rfl)
      | (apply as_move; exact OpR_move rfl is_rfl)
      | (apply as_assign; exact OpR_assign rfl is_rfl)
      | (apply as_add; exact OpR_addn rfl rfl (by omega) (by first | (simp only [Int.reduceAdd]; exact rfl) | exact rfl) is_rfl)
      | (apply as_binOp; exact OpR_ibin rfl rfl rfl is_rfl)
      | (apply as_pick; first | exact OpR_pick_t rfl gb rfl is_rfl | exact OpR_pick_f rfl gb rfl is_rfl)
      | (apply as_indexAddr; exact OpR_indexAddr rfl rfl (by omega) (by omega) is_rfl)
      | (apply as_build; exact OpR_build rfl (by (simp only [bld, placesOf, splice, Value.cells, List.take_succ_cons, List.take_zero, List.drop_succ_cons, List.drop_zero, List.cons_append, List.nil_append, List.length_cons, List.length_nil, List.getElem?_cons_zero, List.getElem?_cons_succ, Option.map_some, List.append_nil, Nat.reduceAdd, Nat.reduceMul, Nat.zero_add, Nat.reduceLeDiff, and_self, if_true, List.toList_toArray, Nat.le_refl, Nat.zero_mul, Nat.one_mul]; first | done | rfl)) is_rfl)); first | (exact rfl; exact rfl) | exact rfl)
                    | (apply J_seq)
                    | (apply J_region)
                    | (apply J_block)
                    | (apply aj_exit; refine J_exit rfl ?_)
                    | (apply J_skip)
                    | (apply al_none (t := 19); refine JL_o (by apply as_alloc; exact OpR_alloc' hs) rfl rfl ?_; rintro _ _ ⟨b19, rfl, hb19, hs, hE⟩)
                    | (apply al_unit; refine JL_u (by apply as_store; exact OpR_store' hs rfl rfl rfl) rfl ?_; rintro _ _ ⟨hs, hF⟩)
                    | (apply al_guard; (refine JL_no rfl gb rfl ?_))
                    | (apply aj_cond; first | refine J_dec_t rfl ob ?_ | refine J_cond_t rfl gb ?_))
                  refine ih2 (k + 1, A, 0, aa, ca) _ _ ⟨hs.sel [1, 2, 3, 4, 5, 6, 7] (by decide), by dsimp only; rw [run_skip hv (fun e => hki e.1)]; exact hrel, hAo, by dsimp only; omega, hlt⟩ (by show q2 - (k + 1) < q2 - k; omega) (by repeat' (first | exact trivial | exact rfl | apply And.intro))
              · repeat' (first
                  | (apply JL_nil)
                  | ((apply JL_pure); (first
      | (apply as_load; first | exact OpR_load1N (off := k * 1) (n := q2) (c := c32) hs rfl (cell_id hv) is_rfl | exact OpR_load' hs rfl rfl is_rfl | exact OpR_load_agg' hs rfl is_rfl)
      | (apply as_move; exact OpR_move rfl is_rfl)
      | (apply as_assign; exact OpR_assign rfl is_rfl)
      | (apply as_add; exact OpR_addn rfl rfl (by omega) (by first | (simp only [Int.reduceAdd]; exact rfl) | exact rfl) is_rfl)
      | (apply as_binOp; exact OpR_ibin rfl rfl rfl is_rfl)
      | (apply as_pick; exact OpR_pick_t rfl gb rfl is_rfl)
      | (apply as_indexAddr; exact OpR_indexAddr rfl rfl (by omega) (by omega) is_rfl)
      | (apply as_build; exact OpR_build rfl (by (simp only [bld, placesOf, splice, Value.cells, List.take_succ_cons, List.take_zero, List.drop_succ_cons, List.drop_zero, List.cons_append, List.nil_append, List.length_cons, List.length_nil, List.getElem?_cons_zero, List.getElem?_cons_succ, Option.map_some, List.append_nil, Nat.reduceAdd, Nat.reduceMul, Nat.zero_add, Nat.reduceLeDiff, and_self, if_true, List.toList_toArray, Nat.le_refl, Nat.zero_mul, Nat.one_mul]; first | done | rfl)) is_rfl)); first | (exact rfl; exact rfl) | exact rfl)
                  | (apply J_seq)
                  | (apply J_region)
                  | (apply J_block)
                  | (apply aj_exit; refine J_exit rfl ?_)
                  | (apply J_skip)
                  | (apply al_none (t := 19); refine JL_o (by apply as_alloc; exact OpR_alloc' hs) rfl rfl ?_; rintro _ _ ⟨b19, rfl, hb19, hs, hE⟩)
                  | (apply al_unit; refine JL_u (by apply as_store; exact OpR_store' hs rfl rfl rfl) rfl ?_; rintro _ _ ⟨hs, hF⟩)
                  | (apply al_guard; (refine JL_no rfl gb rfl ?_))
                  | (apply aj_cond; first | refine J_dec_t rfl ob ?_ | refine J_cond_t rfl gb ?_))
                refine ih2 (k + 1, A, no, aa, ca) _ _ ⟨hs.sel [1, 2, 3, 4, 5, 6, 7] (by decide), by dsimp only; rw [run_stay hv (by rw [← hrel.1]; exact hn0)]; exact hrel, hAo, by dsimp only; omega, hlt⟩ (by show q2 - (k + 1) < q2 - k; omega) (by repeat' (first | exact trivial | exact rfl | apply And.intro))
            · have hs : St w NoF w4 [_, _, _, _, _, _, _] := hs1
              rw [List.take_of_length_le (by omega), ← hz] at hrel
              have he : Z.2 = no := hrel.1.symm
              have hnot : ¬ (A.length : Int) > 20000 := by omega
              by_cases hn0 : no = 0
              · have hzA : Z.1 = ofH A := by
                  obtain ⟨i1, i2⟩ := hrel.2 (he.trans hn0)
                  rw [← i2]; exact of_ok (right_ok.1 i1)
                have hn1 : ¬ no ≠ 0 := fun e => e hn0
                repeat' (first
                  | ((apply al_callg 22; refine JL_o_on rfl gb (by exact OpR_callF en22 rfl (of15_r _ aa A.length ca A (slH hs (by repeat (first | exact List.Mem.head _ | apply List.Mem.tail)) hAo) (by omega))) rfl rfl ?_; rintro _ _ ⟨q9, a9, c9, ⟨hm9, ho9⟩, rfl, hf⟩; have hs := hs.fresh hf; (try simp only [List.cons_append, List.nil_append] at hs)))
                  | ((apply al_callg 21; refine JL_o_on rfl gb (by exact OpR_callF en21 rfl (Same15_r _ a6 a9 qn.length c6 q9.length c9 (qn.map meanQ) (q9.map meanQ) (slQ hs (by repeat (first | exact List.Mem.head _ | apply List.Mem.tail)) (by repeat (first | exact List.Mem.head _ | apply List.Mem.tail)) hno6) (slQ hs (by repeat (first | exact List.Mem.head _ | apply List.Mem.tail)) (by repeat (first | exact List.Mem.head _ | apply List.Mem.tail)) ho9))) rfl rfl ?_; rintro _ _ ⟨rfl, hE⟩; rw [show decide (qn.map meanQ = q9.map meanQ) = true from decide_eq_true (by rw [hnm, hm9]; exact hzA)]; have hs := hs.ext hE; (try simp only [List.cons_append, List.nil_append] at hs)))
                  | ((apply al_callg 11; refine JL_o_on rfl gb (by exact OpR_callF en11 rfl (rlown_r _ a n c l (hl.st hs))) rfl rfl ?_; rintro _ _ ⟨qs2, a10, c10, ⟨hqm2, hqo2⟩, rfl, hf⟩; rw [← hE0] at hqm2; have hs := hs.fresh hf; (try simp only [List.cons_append, List.nil_append] at hs)))
                  | ((apply al_callg 21; refine JL_o_on rfl gb (by exact OpR_callF en21 rfl (Same15_r _ a5 a10 qs.length c5 qs2.length c10 (qs.map meanQ) (qs2.map meanQ) (slQ hs (by repeat (first | exact List.Mem.head _ | apply List.Mem.tail)) (by repeat (first | exact List.Mem.head _ | apply List.Mem.tail)) hqo) (slQ hs (by repeat (first | exact List.Mem.head _ | apply List.Mem.tail)) (by repeat (first | exact List.Mem.head _ | apply List.Mem.tail)) hqo2))) rfl rfl ?_; rintro _ _ ⟨rfl, hE⟩; rw [hqm, hqm2, hEE]; have hs := hs.ext hE; (try simp only [List.cons_append, List.nil_append] at hs)))
                  | (apply JL_nil)
                  | ((first | (apply JL_pure) | (apply JL_pure_on; exact rfl; exact gb)); (first
      | (apply as_move; exact OpR_move rfl is_rfl)
      | (apply as_assign; exact OpR_assign rfl is_rfl)
      | (apply as_binOp; exact OpR_ibin rfl rfl rfl is_rfl)
      | (apply as_pick; exact OpR_pick_t rfl gb rfl is_rfl)
      | (apply as_b_len; exact OpR_len rfl is_rfl)); first | (exact rfl; exact rfl) | exact rfl)
                  | (apply J_seq)
                  | (apply J_region)
                  | (apply J_inBlock)
                  | (apply aj_exit; refine J_exit rfl ?_)
                  | (apply J_skip)
                  | (apply aj_cond; refine J_dec_f rfl ob ?_))
                refine J_leave Tryz.func4 rfl (.tmp rfl .nil) ⟨rfl, hs.frm.ext⟩
              · have hzN : Z.1 = [] := by rw [hZ]; exact retM_none (by rw [← hZ, he]; exact hn0)
                repeat' (first
                  | ((apply al_callg 22; refine JL_o_on rfl gb (by exact OpR_callF en22 rfl (of15_r _ none 0 0 [] (slNil _) (by decide))) rfl rfl ?_; rintro _ _ ⟨q9, a9, c9, ⟨hm9, ho9⟩, rfl, hf⟩; have hs := hs.fresh hf; (try simp only [List.cons_append, List.nil_append] at hs)))
                  | ((apply al_callg 21; refine JL_o_on rfl gb (by exact OpR_callF en21 rfl (Same15_r _ a6 a9 qn.length c6 q9.length c9 (qn.map meanQ) (q9.map meanQ) (slQ hs (by repeat (first | exact List.Mem.head _ | apply List.Mem.tail)) (by repeat (first | exact List.Mem.head _ | apply List.Mem.tail)) hno6) (slQ hs (by repeat (first | exact List.Mem.head _ | apply List.Mem.tail)) (by repeat (first | exact List.Mem.head _ | apply List.Mem.tail)) ho9))) rfl rfl ?_; rintro _ _ ⟨rfl, hE⟩; rw [show decide (qn.map meanQ = q9.map meanQ) = true from decide_eq_true (by rw [hnm, hm9]; exact hzN)]; have hs := hs.ext hE; (try simp only [List.cons_append, List.nil_append] at hs)))
                  | ((apply al_callg 11; refine JL_o_on rfl gb (by exact OpR_callF en11 rfl (rlown_r _ a n c l (hl.st hs))) rfl rfl ?_; rintro _ _ ⟨qs2, a10, c10, ⟨hqm2, hqo2⟩, rfl, hf⟩; rw [← hE0] at hqm2; have hs := hs.fresh hf; (try simp only [List.cons_append, List.nil_append] at hs)))
                  | ((apply al_callg 21; refine JL_o_on rfl gb (by exact OpR_callF en21 rfl (Same15_r _ a5 a10 qs.length c5 qs2.length c10 (qs.map meanQ) (qs2.map meanQ) (slQ hs (by repeat (first | exact List.Mem.head _ | apply List.Mem.tail)) (by repeat (first | exact List.Mem.head _ | apply List.Mem.tail)) hqo) (slQ hs (by repeat (first | exact List.Mem.head _ | apply List.Mem.tail)) (by repeat (first | exact List.Mem.head _ | apply List.Mem.tail)) hqo2))) rfl rfl ?_; rintro _ _ ⟨rfl, hE⟩; rw [hqm, hqm2, hEE]; have hs := hs.ext hE; (try simp only [List.cons_append, List.nil_append] at hs)))
                  | (apply JL_nil)
                  | ((first | (apply JL_pure) | (apply JL_pure_on; exact rfl; exact gb)); (first
      | (apply as_move; exact OpR_move rfl is_rfl)
      | (apply as_assign; exact OpR_assign rfl is_rfl)
      | (apply as_binOp; exact OpR_ibin rfl rfl rfl is_rfl)
      | (apply as_pick; exact OpR_pick_t rfl gb rfl is_rfl)
      | (apply as_b_len; exact OpR_len rfl is_rfl)); first | (exact rfl; exact rfl) | exact rfl)
                  | (apply J_seq)
                  | (apply J_region)
                  | (apply J_inBlock)
                  | (apply aj_exit; refine J_exit rfl ?_)
                  | (apply J_skip)
                  | (apply aj_cond; first | refine J_dec_t rfl ob ?_ | refine J_dec_f rfl ob ?_))
                refine J_leave Tryz.func4 rfl (.tmp rfl .nil) ⟨rfl, hs.frm.ext⟩
end Go.Eng
