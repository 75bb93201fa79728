/- The texts K23, K24, joined. -/
import Derived.Test.YtcoldgkhlkjjmaaX4
/- Referrers: ReferTurn. -/
namespace Go.Eng
open Go.Proofs
set_option linter.unusedSimpArgs false
set_option linter.unusedVariables false
theorem right_of {A : List HH} (hs : sortedH A) (hm : ∀ x ∈ A, mayH x = true) (hl : A.length ≤ 20000) : rightH (ofH A) = true := by
  unfold rightH
  rw [allH_of hs, List.all_eq_true.2 hm, decide_eq_true hl]
  simp
theorem right_may {l : List RH} (h : rightH l = true) : (∀ x ∈ allH l, mayH x = true) ∧ (allH l).length ≤ 20000 := by
  unfold rightH at h
  rw [Bool.and_eq_true, Bool.and_eq_true] at h
  exact ⟨List.all_eq_true.1 h.1.1, of_decide_eq_true h.2⟩
theorem without_with {A : List HH} {h : HH} (hA : sortedH A) (hn : h ∉ A) : withoutH (withH A h) h = A :=
  sortedH_uniq (withoutH_sorted (withH_sorted hA h) h) hA fun x => by
    rw [withoutH_mem, withH_mem]
    constructor
    · rintro ⟨e | e, h2⟩
      · exact absurd e h2
      · exact e
    · intro e
      exact ⟨.inr e, fun e2 => hn (e2 ▸ e)⟩
/-- What was put: the referrers behind it, and behind its drop. -/
theorem put_facts {E : List RH} {h : HH} (hp : putC E h = 0) : rightH (ofH (withH (allH E) h)) = true ∧ allH (ofH (withH (allH E) h)) = withH (allH E) h ∧ dropC (ofH (withH (allH E) h)) h = 0 ∧ ofH (withoutH (allH (ofH (withH (allH E) h))) h) = E := by
  obtain ⟨hr, hm, hnot, h20⟩ := putC_zero hp
  obtain ⟨hall, hlen⟩ := right_may hr
  have hso := allH_sorted E
  have hsw := withH_sorted hso h
  have hR : rightH (ofH (withH (allH E) h)) = true := right_of hsw (fun x hx => by
    rcases withH_mem.1 hx with e | e
    · rw [e]; exact hm
    · exact hall x e) (by have := withH_len' (allH E) h; omega)
  have hA := allH_of hsw
  refine ⟨hR, hA, ?_, ?_⟩
  · unfold dropC
    rw [if_pos hR, if_pos hm, hA, if_pos (withH_mem.2 (.inl rfl))]
  · rw [hA, without_with hso hnot]
    exact (of_ok (right_ok.1 hr)).symm
theorem hold_mem {A : List HH} {h : HH} {n : Int} (hm : h ∈ A) (hn : mentB h.2 n = true) : h.1 ∈ holdM A n := by
  unfold holdM
  rw [(foldP_law _ [] List.Pairwise.nil).2]
  exact .inr (List.mem_map_of_mem (underH_mem.2 ⟨hm, hn⟩))
theorem tot_le {l : List RH} (h : OkR l) : tot l ≤ 2 * (allH l).length ∧ l.length ≤ 2 * (allH l).length := by
  obtain ⟨A, hA⟩ : ∃ A, A = allH l := ⟨_, rfl⟩
  have hof := of_ok h
  rw [← hA] at hof ⊢
  have hl : l.length = (idxH A).length := by conv => lhs; rw [hof]
                                             unfold ofH; rw [List.length_map]
  refine ⟨?_, by rw [hl]; exact idxH_len A⟩
  have hri := idxH_rising A
  rw [hof]
  unfold tot ofH
  have key : ∀ (B : List HH) (is_ : List Int), risingI is_ → ((is_.map fun n => (n, underH B n)).flatMap (·.2)).length ≤ 2 * B.length := by
    intro B is_ hri
    have h1 : ((is_.map fun n => (n, underH B n)).flatMap (·.2)).length = (is_.map fun n => (underH B n).length).sum := by
      rw [List.length_flatMap, List.map_map]; rfl
    rw [h1]
    clear h1
    induction B with
    | nil =>
      show (is_.map fun n => 0).sum ≤ 0
      clear hri
      induction is_ with
      | nil => exact Nat.le_refl _
      | cons n is_ ih => rw [List.map_cons, List.sum_cons]; omega
    | cons x B ih =>
      have h2 : ∀ js : List Int, (js.map fun n => (underH (x :: B) n).length).sum = (js.filter fun m => mentB x.2 m).length + (js.map fun n => (underH B n).length).sum := by
        intro js
        induction js with
        | nil => rfl
        | cons n js ih2 =>
          rw [List.map_cons, List.sum_cons, List.map_cons, List.sum_cons, List.filter_cons, ih2]
          unfold underH
          rw [List.filter_cons]
          by_cases e : mentB x.2 n = true
          · rw [if_pos e, if_pos e, List.length_cons, List.length_cons]; omega
          · rw [if_neg e, if_neg e]; omega
      have h3 : (is_.filter fun m => mentB x.2 m).length ≤ 2 := by
        have hnd : ∀ js : List Int, risingI js → (js.filter fun m => mentB x.2 m).length ≤ 2 := fun js hj => by
          have hs : (js.filter fun m => mentB x.2 m).Nodup := (List.Pairwise.imp (S := (· ≠ ·)) (fun {a b} h => by omega) hj).sublist List.filter_sublist
          have hsub : ∀ m ∈ js.filter (fun m => mentB x.2 m), m ∈ [(partsM x.2).1, (partsM x.2).2] := fun m hm => by
            rcases ment_iff.1 (List.mem_filter.1 hm).2 with e | e
            · rw [← e]; simp
            · rw [← e]; simp
          match hz : js.filter (fun m => mentB x.2 m), hs, hsub with
          | [], _, _ => simp
          | [_], _, _ => simp
          | [_, _], _, _ => simp
          | a :: b :: d :: zs, hs, hsub =>
            exfalso
            have ha := hsub a (by simp)
            have hb := hsub b (by simp)
            have hd := hsub d (by simp)
            simp only [List.mem_cons, List.not_mem_nil, or_false] at ha hb hd
            rw [List.nodup_cons, List.nodup_cons] at hs
            have n1 : a ≠ b := fun e => hs.1 (by simp [e])
            have n2 : a ≠ d := fun e => hs.1 (by simp [e])
            have n3 : b ≠ d := fun e => hs.2.1 (by simp [e])
            omega
        exact hnd is_ hri
      rw [h2, List.length_cons]
      omega
  exact key A (idxH A) hri
attribute [local irreducible] Hold J JL JD JX JXat OpR OpG Ret RetV Is Blk Row MapC
set_option maxRecDepth 100000
set_option maxHeartbeats 1000000
theorem requal1_r (w : World) (r q : RRef) (x y : RH) (h1 : mRef.rel All w r x) (h2 : mRef.rel All w q y) :
    Ret Try.prog 103 #[.agg (cRef r).toArray, .agg (cRef q).toArray] w fun v w' => v = .bool (decide (x = y)) ∧ Ext w w' := by
  refine Ret_of (l := [_, _]) Try.func103 rfl Try.ntmps103 (by simp) ?_
  have hs := St.init w
  have e1 : r.1 = x.1 := h1.1
  have e3 : q.1 = y.1 := h2.1
  have mx : Sl dHeld All w r.2.1 r.2.2.1 r.2.2.2 x.2 := h1.2
  have my : Sl dHeld All w q.2.1 q.2.2.1 q.2.2.2 y.2 := h2.2
  by_cases hc : r.1 = q.1
  · repeat' (first
      | ((apply al_callg 41; refine JL_o_on rfl gb (by exact OpR_callF en41 rfl (equalH_r _ r.2.1 q.2.1 r.2.2.1 r.2.2.2 q.2.2.1 q.2.2.2 x.2 y.2 (mx.st hs) (my.st hs))) rfl rfl ?_; rintro _ _ ⟨rfl, hE⟩; have hs := hs.ext hE; (try simp only [List.cons_append, List.nil_append] at hs)))
      | (apply JL_nil)
      | ((first | (apply JL_pure) | (apply JL_pure_on; exact rfl; exact gb)); (first
      | (apply as_move; exact OpR_move rfl is_rfl)
      | (apply as_assign; exact OpR_assign rfl is_rfl)
      | (apply as_fieldAddr; exact OpR_fieldAddr0 rfl rfl is_rfl)
      | (apply as_load; exact OpR_load' hs rfl rfl is_rfl)
      | (apply as_binOp; exact OpR_ibin rfl rfl rfl is_rfl)
      | (apply as_pick; exact OpR_pick_t rfl gb rfl is_rfl)); first | (exact rfl; exact rfl) | exact rfl)
      | (apply J_seq)
      | (apply J_region)
      | (apply al_none (t := 2); refine JL_o (by apply as_box; exact OpR_box' hs rfl) rfl rfl ?_; rintro _ _ ⟨b2, rfl, hb2, hs, hE⟩)
      | (apply al_none (t := 3); refine JL_o (by apply as_box; exact OpR_box' hs rfl) rfl rfl ?_; rintro _ _ ⟨b3, rfl, hb3, hs, hE⟩))
    refine J_leave Try.func103 rfl (.tmp rfl .nil) ⟨?_, hs.frm.ext⟩
    show Value.bool _ = Value.bool _
    congr 1
    rw [decide_eq_decide]
    exact ⟨fun e => Prod.ext (by rw [← e1, ← e3, hc]) e, fun e => by rw [e]⟩
  · repeat' (first
      | (apply JL_nil)
      | ((apply JL_pure); (first
      | (apply as_move; exact OpR_move rfl is_rfl)
      | (apply as_assign; exact OpR_assign rfl is_rfl)
      | (apply as_fieldAddr; exact OpR_fieldAddr0 rfl rfl is_rfl)
      | (apply as_load; exact OpR_load' hs rfl rfl is_rfl)
      | (apply as_binOp; exact OpR_ibin rfl rfl rfl is_rfl)
      | (apply as_pick; exact OpR_pick_f rfl gb rfl is_rfl)); first | (exact rfl; exact rfl) | exact rfl)
      | (apply J_seq)
      | (apply J_region)
      | (apply al_none (t := 2); refine JL_o (by apply as_box; exact OpR_box' hs rfl) rfl rfl ?_; rintro _ _ ⟨b2, rfl, hb2, hs, hE⟩)
      | (apply al_none (t := 3); refine JL_o (by apply as_box; exact OpR_box' hs rfl) rfl rfl ?_; rintro _ _ ⟨b3, rfl, hb3, hs, hE⟩)
      | (apply al_guard; (refine JL_no rfl gb rfl ?_)))
    refine J_leave Try.func103 rfl (.tmp rfl .nil) ⟨congrArg Value.bool (decide_eq_false (fun e => hc (by rw [e1, e3, e]))).symm, hs.frm.ext⟩
theorem requalF_r (w : World) (a1 a2 : Option Addr) (n1 c1 n2 c2 : Nat) (l1 l2 : List RH) (h1 : Sl dRef All w a1 n1 c1 l1) (h2 : Sl dRef All w a2 n2 c2 l2) :
    Ret Try.prog 102 #[.slice a1 n1 c1, .slice a2 n2 c2, .func (.func 103) #[] #[]] w fun v w' => v = .bool (decide (l1 = l2)) ∧ Ext w w' := by
  refine Ret_of (l := [_, _, _]) Try.func102 rfl Try.ntmps102 (by simp) ?_
  have hs := St.init w
  have hl1 := h1.len
  have hl2 := h2.len
  obtain ⟨rs1, hr1, hm1⟩ := Sl.raw (D := rawRef) h1
  obtain ⟨rs2, hr2, hm2⟩ := Sl.raw (D := rawRef) h2
  have hmx : n1 ≤ 9223372036854775807 := by have h3 := h1.le; have h4 := h1.cap; unfold maxLen at h4; omega
  by_cases hn : n1 = n2
  · subst hn
    repeat' (first
      | (apply JL_nil)
      | ((apply JL_pure); (first
      | (apply as_move; exact OpR_move rfl is_rfl)
      | (apply as_assign; exact OpR_assign rfl is_rfl)
      | (apply as_binOp; exact OpR_ibin rfl rfl rfl is_rfl)
      | (apply as_b_len; exact OpR_len rfl is_rfl)); first | (exact rfl; exact rfl) | exact rfl)
      | (apply J_seq)
      | (apply J_region)
      | (apply J_block)
      | (apply J_skip)
      | (apply aj_cond; refine J_dec_f rfl ob ?_))
    refine J_loopK (α := Nat) [(1, _), (2, _), (15, _), (16, _)] (fun k => [(17, .int .i64 k)]) (fun k w' => St w NoF w' [] ∧ k ≤ n1 ∧ l1.take k = l2.take k) (fun k => n1 - k) 0 ⟨hs, Nat.zero_le _, rfl⟩ (by repeat' (first | exact trivial | exact rfl | apply And.intro)) ?_
    rintro k w2 ⟨hs1, hk, heq⟩ ih
    have hs : St w NoF w2 [] := hs1
    by_cases hlt : k < n1
    · obtain ⟨p, o, rfl⟩ := hr1.sl.addr (by omega)
      obtain ⟨p2, o2, rfl⟩ := hr2.sl.addr (by omega)
      have hs : St w NoF w2 [] := hs1
      have hx : l1[k]? = some (l1[k]'(by omega)) := List.getElem?_eq_getElem (by omega)
      have hy : l2[k]? = some (l2[k]'(by omega)) := List.getElem?_eq_getElem (by omega)
      obtain ⟨x, hxd⟩ : ∃ x, x = l1[k]'(by omega) := ⟨_, rfl⟩
      obtain ⟨y, hyd⟩ : ∃ y, y = l2[k]'(by omega) := ⟨_, rfl⟩
      rw [← hxd] at hx
      rw [← hyd] at hy
      obtain ⟨r, hrx, hrel⟩ := hm1.get hx
      obtain ⟨q, hqy, hqel⟩ := hm2.get hy
      by_cases hc : x = y
      · repeat' (first
          | ((apply al_none (t := 29); refine JL_o (OpR_callV rfl rfl (Ret.value (cap := #[]) en103 (requal1_r _ r q x y (mRef.loc hrel (fun k _ hk => hs.frm.old k hk id)) (mRef.loc hqel (fun k _ hk => hs.frm.old k hk id))))) rfl rfl ?_; rintro _ _ ⟨rfl, hE⟩; rw [decide_eq_true hc]; have hs := hs.ext hE))
          | (apply JL_nil)
          | ((apply JL_pure); (first
      | (apply as_load; first | exact OpR_load' hs rfl rfl is_rfl | exact OpR_load_agg' hs rfl is_rfl | exact OpR_load_el (b := p) (o := o) (hr1.st hs) hrx rfl rfl is_rfl | exact OpR_load_el (b := p2) (o := o2) (hr2.st hs) hqy rfl rfl is_rfl)
      | (apply as_move; exact OpR_move rfl is_rfl)
      | (apply as_assign; exact OpR_assign rfl is_rfl)
      | (apply as_add; exact OpR_addn rfl rfl (by omega) (by first | (simp only [Int.reduceAdd]; exact rfl) | exact rfl) is_rfl)
      | (apply as_binOp; exact OpR_ibin rfl rfl rfl is_rfl)
      | (apply as_unOp; exact OpR_not rfl is_rfl)
      | (apply as_indexAddr; exact OpR_indexAddr rfl rfl (by omega) (by omega) is_rfl)); first | (exact rfl; exact rfl) | exact rfl)
          | (apply J_seq)
          | (apply J_region)
          | (apply J_block)
          | (apply J_inBlock)
          | (apply J_skip)
          | (apply al_none (t := 8); refine JL_o (by apply as_alloc; exact OpR_alloc' hs) rfl rfl ?_; rintro _ _ ⟨b8, rfl, hb8, hs, hE⟩)
          | (apply al_none (t := 9); refine JL_o (by apply as_alloc; exact OpR_alloc' hs) rfl rfl ?_; rintro _ _ ⟨b9, rfl, hb9, hs, hE⟩)
          | (apply al_unit; refine JL_u (by apply as_store; exact OpR_store' hs rfl rfl rfl) rfl ?_; rintro _ _ ⟨hs, hF⟩)
          | (apply aj_cond; first | refine J_dec_t rfl ob ?_ | refine J_cond_f rfl gb ?_))
        refine ih (k + 1) _ _ ⟨hs.sel [] (by decide), hlt, take_eq_succ hx (by rw [hc]; exact hy) heq⟩ (by omega) (by repeat' (first | exact trivial | exact rfl | apply And.intro))
      · repeat' (first
          | ((apply al_none (t := 29); refine JL_o (OpR_callV rfl rfl (Ret.value (cap := #[]) en103 (requal1_r _ r q x y (mRef.loc hrel (fun k _ hk => hs.frm.old k hk id)) (mRef.loc hqel (fun k _ hk => hs.frm.old k hk id))))) rfl rfl ?_; rintro _ _ ⟨rfl, hE⟩; rw [decide_eq_false hc]; have hs := hs.ext hE))
          | (apply JL_nil)
          | ((apply JL_pure); (first
      | (apply as_load; first | exact OpR_load' hs rfl rfl is_rfl | exact OpR_load_agg' hs rfl is_rfl | exact OpR_load_el (b := p) (o := o) (hr1.st hs) hrx rfl rfl is_rfl | exact OpR_load_el (b := p2) (o := o2) (hr2.st hs) hqy rfl rfl is_rfl)
      | (apply as_move; exact OpR_move rfl is_rfl)
      | (apply as_assign; exact OpR_assign rfl is_rfl)
      | (apply as_binOp; exact OpR_ibin rfl rfl rfl is_rfl)
      | (apply as_unOp; exact OpR_not rfl is_rfl)
      | (apply as_indexAddr; exact OpR_indexAddr rfl rfl (by omega) (by omega) is_rfl)); first | (exact rfl; exact rfl) | exact rfl)
          | (apply J_seq)
          | (apply J_region)
          | (apply J_block)
          | (apply J_skip)
          | (apply al_none (t := 8); refine JL_o (by apply as_alloc; exact OpR_alloc' hs) rfl rfl ?_; rintro _ _ ⟨b8, rfl, hb8, hs, hE⟩)
          | (apply al_none (t := 9); refine JL_o (by apply as_alloc; exact OpR_alloc' hs) rfl rfl ?_; rintro _ _ ⟨b9, rfl, hb9, hs, hE⟩)
          | (apply al_unit; refine JL_u (by apply as_store; exact OpR_store' hs rfl rfl rfl) rfl ?_; rintro _ _ ⟨hs, hF⟩)
          | (apply aj_cond; first | refine J_dec_t rfl ob ?_ | refine J_cond_t rfl gb ?_))
        refine J_leave Try.func102 rfl (.tmp rfl .nil) ⟨congrArg Value.bool (decide_eq_false fun e => hc (by subst e; rw [hx] at hy; exact Option.some.inj hy)).symm, hs.frm.ext⟩
    · rw [List.take_of_length_le (by omega), List.take_of_length_le (by omega)] at heq
      repeat' (first
        | (apply JL_nil)
        | ((apply JL_pure); (first
      | (apply as_assign; exact OpR_assign rfl is_rfl)
      | (apply as_binOp; exact OpR_ibin rfl rfl rfl is_rfl)); first | (exact rfl; exact rfl) | exact rfl)
        | (apply J_seq)
        | (apply J_region)
        | (apply aj_exit; refine J_exit rfl ?_)
        | (apply aj_cond; refine J_dec_f rfl ob ?_))
      refine J_leave Try.func102 rfl (.tmp rfl .nil) ⟨congrArg Value.bool (decide_eq_true heq).symm, hs.frm.ext⟩
  · repeat' (first
      | (apply JL_nil)
      | ((apply JL_pure); (first
      | (apply as_move; exact OpR_move rfl is_rfl)
      | (apply as_assign; exact OpR_assign rfl is_rfl)
      | (apply as_binOp; exact OpR_ibin rfl rfl rfl is_rfl)
      | (apply as_b_len; exact OpR_len rfl is_rfl)); first | (exact rfl; exact rfl) | exact rfl)
      | (apply J_seq)
      | (apply J_region)
      | (apply aj_cond; refine J_dec_t rfl ob ?_))
    refine J_leave Try.func102 rfl (.tmp rfl .nil) ⟨congrArg Value.bool (decide_eq_false fun e => hn (by rw [← hl1, ← hl2, e])).symm, hs.frm.ext⟩
theorem requal_r (w : World) (a1 a2 : Option Addr) (n1 c1 n2 c2 : Nat) (l1 l2 : List RH) (h1 : Sl dRef All w a1 n1 c1 l1) (h2 : Sl dRef All w a2 n2 c2 l2) :
    Ret Try.prog 53 #[.slice a1 n1 c1, .slice a2 n2 c2] w fun v w' => v = .bool (decide (l1 = l2)) ∧ Ext w w' := by
  refine Ret_of (l := [_, _]) Try.func53 rfl Try.ntmps53 (by simp) ?_
  have hs := St.init w
  repeat' (first
    | ((apply al_call 102; refine JL_o (by exact OpR_callF en102 rfl (requalF_r _ a1 a2 n1 c1 n2 c2 l1 l2 (h1.st hs) (h2.st hs))) rfl rfl ?_; rintro _ _ ⟨rfl, hE⟩; have hs := hs.ext hE; (try simp only [List.cons_append, List.nil_append] at hs)))
    | (apply JL_nil)
    | ((apply JL_pure); (first
      | (apply as_move; exact OpR_move rfl is_rfl)
      | (apply as_assign; exact OpR_assign rfl is_rfl)); first | (exact rfl; exact rfl) | exact rfl)
    | (apply J_seq)
    | (apply J_region))
  refine J_leave Try.func53 rfl (.tmp rfl .nil) ⟨rfl, hs.frm.ext⟩
end Go.Eng
/- ReferTurn. -/
namespace Go.Eng
open Go.Proofs
set_option linter.unusedSimpArgs false
set_option linter.unusedVariables false
theorem holdM_ok {A : List HH} (h : ∀ y ∈ A, okH y) (x : Int) : ∀ z ∈ holdM A x, inK .i64 z := by
  unfold holdM
  refine foldP_ok _ _ (fun z hz => ?_) (fun z hz => by cases hz)
  obtain ⟨y, hy, rfl⟩ := List.mem_map.1 hz
  exact (h y (underH_mem.1 hy).1).1
theorem ownL_ok {w : World} {a : Option Addr} {n c : Nat} {l : List RH} (h : Sl dRef All w a n c l) : ∀ r ∈ ownL l, inK .i64 r.1 ∧ ∀ x ∈ r.2, okH x := fun r hr => by
  unfold ownL at hr
  obtain ⟨q, hq, rfl⟩ := List.mem_map.1 hr
  have := sl_okR h q (List.mem_of_mem_take hq)
  exact ⟨this.1, fun x hx => this.2 x (List.mem_of_mem_take hx)⟩
theorem ofR_ok {l : List RH} (h : rightH l = true) (x : Int) : ofR l x = underH (allH l) x := by unfold ofR; rw [h]; rfl
theorem hldR_ok {l : List RH} (h : rightH l = true) (x : Int) : hldR l x = holdM (allH l) x := by unfold hldR; rw [h]; rfl
theorem allR_ok {l : List RH} (h : rightH l = true) : allR l = allH l := by unfold allR; rw [h]; rfl
attribute [local irreducible] Hold J JL JD JX JXat OpR OpG Ret RetV Is Blk Row MapC
set_option maxRecDepth 100000
set_option maxHeartbeats 1000000
theorem referTurn_w (w : World) (a : Option Addr) (n c : Nat) (l : List RH) (x1 x2 : Int) (hl : Sl dRef All w a n c l) (g1 : inK .i64 x1) (g2 : inK .u64 x2) :
    Ret Try.prog 9 #[.slice a n c, .agg #[.int .i64 x1, .int .u64 x2]] w fun v w' => v = .bool true ∧ Ext w w' := by
  refine Ret_of (l := [_, _]) Try.func9 rfl Try.ntmps9 (by simp) ?_
  have hs := St.init w
  obtain ⟨h, hh⟩ : ∃ h : HH, h = (x1, x2) := ⟨_, rfl⟩
  have ho : okH h := by rw [hh]; exact ⟨g1, g2⟩
  have hx1 : x1 = h.1 := by rw [hh]
  have hx2 : x2 = h.2 := by rw [hh]
  subst hx1
  subst hx2
  clear hh
  obtain ⟨E, hE0⟩ : ∃ E, E = ownL l := ⟨_, rfl⟩
  have hEl : E.length ≤ 30 := by rw [hE0]; exact ownL_len l
  have hEt : tot E ≤ 1800 := by rw [hE0]; exact ownL_tot l
  have hEo : ∀ r ∈ E, inK .i64 r.1 ∧ ∀ x ∈ r.2, okH x := by rw [hE0]; exact ownL_ok hl
  by_cases hp : putC E h = 0
  · obtain ⟨hR, hA, hD, hback⟩ := put_facts hp
    obtain ⟨hrE, hmE, hnE, _⟩ := putC_zero hp
    obtain ⟨N, hN⟩ : ∃ N, N = ofH (withH (allH E) h) := ⟨_, rfl⟩
    rw [← hN] at hR hA hD hback
    obtain ⟨A', hA'⟩ : ∃ A', A' = withH (allH E) h := ⟨_, rfl⟩
    rw [← hA'] at hA
    have hEtot := allH_len E
    have hAl : A'.length ≤ 1801 := by rw [hA']; have := withH_len' (allH E) h; omega
    obtain ⟨hNt, hNl⟩ := tot_le (right_ok.1 hR)
    rw [hA] at hNt hNl
    have hhA : h ∈ A' := by rw [hA']; exact withH_mem.2 (.inl rfl)
    have hA'o : ∀ x ∈ A', okH x := by rw [hA']; exact withH_ok (allH_ok hEo) ho
    have huo : ∀ x, ∀ y ∈ underH A' x, okH y := fun x y hy => hA'o y (underH_mem.1 hy).1
    obtain ⟨r1, hr1⟩ : ∃ r1, r1 = (partsM h.2).1 := ⟨_, rfl⟩
    obtain ⟨r2, hr2⟩ : ∃ r2, r2 = (partsM h.2).2 := ⟨_, rfl⟩
    have hc1 : h ∈ underH A' r1 := underH_mem.2 ⟨hhA, ment_iff.2 (.inl hr1.symm)⟩
    have hc2 : h ∈ underH A' r2 := underH_mem.2 ⟨hhA, ment_iff.2 (.inr hr2.symm)⟩
    have hc3 : h.1 ∈ holdM A' r2 := hold_mem hhA (ment_iff.2 (.inr hr2.symm))
    have hho := holdM_ok hA'o r2
    have hO : ∀ x, ofR N x = underH A' x := fun x => by rw [ofR_ok hR, hA]
    have hH : hldR N r2 = holdM A' r2 := by rw [hldR_ok hR, hA]
    have hAE : allR E = allH E := allR_ok hrE
    have hEE : decide (E = E) = true := decide_eq_true rfl
    have hno : decide (h ∈ allH E) = false := decide_eq_false hnE
    have hErr := err_ok hR
    repeat' (first
      | ((apply al_none (t := 11); refine JL_o (OpR_callF en35 rfl (rwakes_r _)) rfl rfl ?_; rintro _ _ ⟨rfl, hE⟩; have hs := hs.ext hE))
      | ((apply al_call 36; refine JL_o (by exact OpR_callF en36 rfl (rlown_r _ a n c l (hl.st hs))) rfl rfl ?_; rintro _ _ ⟨qs, a1, c1, ⟨hqm, hqo⟩, rfl, hf⟩; rw [← hE0] at hqm; have hs := hs.fresh hf; have hql : qs.length ≤ 30 := (by have := congrArg List.length hqm; rw [List.length_map] at this; omega); (try simp only [List.cons_append, List.nil_append] at hs)))
      | ((apply al_call 50; refine JL_o (by exact OpR_callF en50 rfl (rput_ok _ a1 qs.length c1 (qs.map meanQ) h (slQ hs (by repeat (first | exact List.Mem.head _ | apply List.Mem.tail)) (by repeat (first | exact List.Mem.head _ | apply List.Mem.tail)) hqo) ho (by omega) (by rw [hqm]; omega) (by rw [hqm]; exact hp))) rfl rfl ?_; rintro _ _ ⟨qn, a6, c6, ⟨hnm, hno6⟩, rfl, hf⟩; rw [hqm, ← hN] at hnm; have hs := hs.fresh hf; have hnl : qn.length ≤ 5000 := (by have := congrArg List.length hnm; rw [List.length_map] at this; omega); (try simp only [List.cons_append, List.nil_append] at hs)))
      | ((apply al_call 49; refine JL_o (by exact OpR_callF en49 rfl (parts_r _ h.2 ho.2)) rfl rfl ?_; rintro _ _ ⟨rfl, hE⟩; rw [← hr1, ← hr2]; have hs := hs.ext hE; (try simp only [List.cons_append, List.nil_append] at hs)))
      | ((apply ax_c; apply JX_cF 42; exact rfl; (intro W X hN hs; exact OpR_callF en42 rfl (rof_r _ a6 qn.length c6 (qn.map meanQ) r1 (slQ hs (by repeat (first | exact List.Mem.head _ | apply List.Mem.tail)) (by repeat (first | exact List.Mem.head _ | apply List.Mem.tail)) hno6) (by omega) (by rw [hnm]; omega))); (rintro _ _ _ _ ⟨a34, c34, rfl, hf⟩; first | exact hE | exact Fresh.ext hf); rintro W X _ _ hN hs ⟨a34, c34, rfl, hf⟩; rw [hnm, hO] at hf ⊢; have hs := hs.fresh hf; (try simp only [List.cons_append, List.nil_append] at hs); refine JX.at hs ?_))
      | ((apply ax_c; apply JX_cFg 42; exact rfl; exact rfl; exact gb; (intro W X hN hs; exact OpR_callF en42 rfl (rof_r _ a6 qn.length c6 (qn.map meanQ) r2 (slQ hs (by repeat (first | exact List.Mem.head _ | apply List.Mem.tail)) (by repeat (first | exact List.Mem.head _ | apply List.Mem.tail)) hno6) (by omega) (by rw [hnm]; omega))); (rintro _ _ _ _ ⟨a41, c41, rfl, hf⟩; first | exact hE | exact Fresh.ext hf); rintro W X _ _ hN hs ⟨a41, c41, rfl, hf⟩; rw [hnm, hO] at hf ⊢; have hs := hs.fresh hf; (try simp only [List.cons_append, List.nil_append] at hs); refine JX.at hs ?_))
      | ((apply ax_c; apply JX_cF 48; exact rfl; (intro W X hN hs; exact OpR_callF en48 rfl (contH_r _ a34 _ c34 (underH A' r1) h (slH hs (by repeat (first | exact List.Mem.head _ | apply List.Mem.tail)) (huo r1)))); (rintro _ _ _ _ ⟨rfl, hE⟩; first | exact hE | exact Fresh.ext hf); rintro W X _ _ hN hs ⟨rfl, hE⟩; rw [decide_eq_true hc1]; have hs := hs.ext hE; (try simp only [List.cons_append, List.nil_append] at hs); refine JX.at hs ?_))
      | ((apply ax_c; apply JX_cFg 48; exact rfl; exact rfl; exact gb; (intro W X hN hs; exact OpR_callF en48 rfl (contH_r _ a41 _ c41 (underH A' r2) h (slH hs (by repeat (first | exact List.Mem.head _ | apply List.Mem.tail)) (huo r2)))); (rintro _ _ _ _ ⟨rfl, hE⟩; first | exact hE | exact Fresh.ext hf); rintro W X _ _ hN hs ⟨rfl, hE⟩; rw [decide_eq_true hc2]; have hs := hs.ext hE; (try simp only [List.cons_append, List.nil_append] at hs); refine JX.at hs ?_))
      | ((apply ax_c; apply JX_cFg 45; exact rfl; exact rfl; exact gb; (intro W X hN hs; exact OpR_callF en45 rfl (rholders_r _ a6 qn.length c6 (qn.map meanQ) r2 (slQ hs (by repeat (first | exact List.Mem.head _ | apply List.Mem.tail)) (by repeat (first | exact List.Mem.head _ | apply List.Mem.tail)) hno6) (by omega) (by rw [hnm]; omega))); (rintro _ _ _ _ ⟨a49, c49, rfl, hf⟩; first | exact hE | exact Fresh.ext hf); rintro W X _ _ hN hs ⟨a49, c49, rfl, hf⟩; rw [hnm, hH] at hf ⊢; have hs := hs.fresh hf; (try simp only [List.cons_append, List.nil_append] at hs); refine JX.at hs ?_))
      | ((apply ax_c; apply JX_cFg 51; exact rfl; exact rfl; exact gb; (intro W X hN hs; exact OpR_callF en51 rfl (contI_r _ a49 _ c49 (holdM A' r2) h.1 (slI hs (by repeat (first | exact List.Mem.head _ | apply List.Mem.tail)) hho))); (rintro _ _ _ _ ⟨rfl, hE⟩; first | exact hE | exact Fresh.ext hf); rintro W X _ _ hN hs ⟨rfl, hE⟩; rw [decide_eq_true hc3]; have hs := hs.ext hE; (try simp only [List.cons_append, List.nil_append] at hs); refine JX.at hs ?_))
      | ((apply ax_c; apply JX_cFg 40; exact rfl; exact rfl; exact gb; (intro W X hN hs; exact OpR_callF en40 rfl (rcheck_r _ a6 qn.length c6 (qn.map meanQ) (slQ hs (by repeat (first | exact List.Mem.head _ | apply List.Mem.tail)) (by repeat (first | exact List.Mem.head _ | apply List.Mem.tail)) hno6) (by omega) (by rw [hnm]; omega))); (rintro _ _ _ _ ⟨rfl, hE⟩; first | exact hE | exact Fresh.ext hf); rintro W X _ _ hN hs ⟨rfl, hE⟩; rw [hnm, hErr]; have hs := hs.ext hE; (try simp only [List.cons_append, List.nil_append] at hs); refine JX.at hs ?_))
      | ((apply al_call 52; refine JL_o (by exact OpR_callF en52 rfl (rdrop_ok _ a6 qn.length c6 (qn.map meanQ) h (slQ hs (by repeat (first | exact List.Mem.head _ | apply List.Mem.tail)) (by repeat (first | exact List.Mem.head _ | apply List.Mem.tail)) hno6) ho (by omega) (by rw [hnm]; omega) (by rw [hnm]; exact hD))) rfl rfl ?_; rintro _ _ ⟨qb, a10, c10, ⟨hbm, hbo⟩, rfl, hf⟩; rw [hnm, hback] at hbm; have hs := hs.fresh hf; have hbl : qb.length ≤ 30 := (by have := congrArg List.length hbm; rw [List.length_map] at this; omega); (try simp only [List.cons_append, List.nil_append] at hs)))
      | ((apply ax_c; apply JX_cFg 53; exact rfl; exact rfl; exact gb; (intro W X hN hs; exact OpR_callF en53 rfl (requal_r _ a10 a1 qb.length c10 qs.length c1 (qb.map meanQ) (qs.map meanQ) (slQ hs (by repeat (first | exact List.Mem.head _ | apply List.Mem.tail)) (by repeat (first | exact List.Mem.head _ | apply List.Mem.tail)) hbo) (slQ hs (by repeat (first | exact List.Mem.head _ | apply List.Mem.tail)) (by repeat (first | exact List.Mem.head _ | apply List.Mem.tail)) hqo))); (rintro _ _ _ _ ⟨rfl, hE⟩; first | exact hE | exact Fresh.ext hf); rintro W X _ _ hN hs ⟨rfl, hE⟩; rw [hbm, hqm, hEE]; have hs := hs.ext hE; (try simp only [List.cons_append, List.nil_append] at hs); refine JX.at hs ?_))
      | ((apply ax_c; apply JX_cFg 39; exact rfl; exact rfl; exact gb; (intro W X hN hs; exact OpR_callF en39 rfl (rall_r _ a10 qb.length c10 (qb.map meanQ) (slQ hs (by repeat (first | exact List.Mem.head _ | apply List.Mem.tail)) (by repeat (first | exact List.Mem.head _ | apply List.Mem.tail)) hbo) (by omega) (by rw [hbm]; omega))); (rintro _ _ _ _ ⟨a75, c75, rfl, hf⟩; first | exact hE | exact Fresh.ext hf); rintro W X _ _ hN hs ⟨a75, c75, rfl, hf⟩; rw [hbm, hAE] at hf ⊢; have hs := hs.fresh hf; (try simp only [List.cons_append, List.nil_append] at hs); refine JX.at hs ?_))
      | ((apply ax_c; apply JX_cFg 48; exact rfl; exact rfl; exact gb; (intro W X hN hs; exact OpR_callF en48 rfl (contH_r _ a75 _ c75 (allH E) h (slH hs (by repeat (first | exact List.Mem.head _ | apply List.Mem.tail)) (allH_ok hEo)))); (rintro _ _ _ _ ⟨rfl, hE⟩; first | exact hE | exact Fresh.ext hf); rintro W X _ _ hN hs ⟨rfl, hE⟩; rw [hno]; have hs := hs.ext hE; (try simp only [List.cons_append, List.nil_append] at hs); refine JX.at hs ?_))
      | (apply JL_nil)
      | ((first | (apply JL_pure) | (apply JX_f; exact rfl; intro W X hs) | (apply JX_f_on; exact rfl; exact rfl; exact gb; intro W X hs)); (first
      | (apply as_move; exact OpR_move rfl is_rfl)
      | (apply as_assign; exact OpR_assign rfl is_rfl)
      | (apply as_fieldAddr; exact OpR_fieldAddr0 rfl rfl is_rfl)
      | (apply as_load; first | exact OpR_load' hs rfl rfl is_rfl | exact OpR_load_agg' hs rfl is_rfl)
      | (apply as_binOp; exact OpR_ibin rfl rfl rfl is_rfl)
      | (apply as_unOp; exact OpR_not rfl is_rfl)
      | (apply as_pick; first | exact OpR_pick_t rfl gb rfl is_rfl | exact OpR_pick_f rfl gb rfl is_rfl)
      | (apply as_extract; exact OpR_extract rfl rfl is_rfl)); first | (exact rfl; exact rfl) | exact rfl)
      | (apply J_seq)
      | (apply J_region)
      | (apply J_skip)
      | (apply al_none (t := 3); refine JL_o (by apply as_box; exact OpR_box' hs rfl) rfl rfl ?_; rintro _ _ ⟨b3, rfl, hb3, hs, hE⟩)
      | (apply aj_cond; first | refine J_dec_f rfl ob ?_ | refine J_cond_f rfl gb ?_)
      | (apply aj_draw; first
    | (refine J_drawX (id := 8) [0, 0, 3, 0, 15, 31, 63, 127, 127, 511, 127, 2047, 4095, 8191, 16383, 32767, 32767, 131071, 32767, 294911, 1048575, 2097151, 4194303, 8388607, 16777215, 33554431, 67108863, 134217727] [(0, 0), (1, 0), (3, 0), (2, 1), (4, 1), (5, 0), (6, 0), (7, 0), (8, 0), (10, 0), (9, 1), (11, 1), (12, 0), (13, 0), (14, 0), (15, 0), (16, 0), (18, 0), (19, 0), (17, 1), (20, 1), (21, 0), (22, 0), (23, 0), (24, 0), (25, 1), (26, 0), (27, 0)] [] hs mixed (by kernel_rfl) (by kernel_rfl) (by kernel_rfl) (by kernel_rfl) (by kernel_rfl) ?_)
    | (refine J_drawX (id := 11) [0, 1, 3, 7, 7, 31, 63, 127, 255, 511, 255, 2047, 4095, 8191, 16383] [(0, 0), (1, 0), (2, 0), (3, 0), (4, 0), (5, 1), (6, 0), (7, 0), (8, 0), (10, 0), (9, 1), (11, 1), (12, 0), (13, 0), (14, 0)] [] hs mixed (by kernel_rfl) (by kernel_rfl) (by kernel_rfl) (by kernel_rfl) (by kernel_rfl) ?_))
      | (refine JX_done (fun W hs => ?_))
      | (apply JD_done))
    refine J_leave Try.func9 rfl (.tmp rfl .nil) ⟨rfl, hs.frm.ext⟩
  · repeat' (first
      | ((apply al_none (t := 11); refine JL_o (OpR_callF en35 rfl (rwakes_r _)) rfl rfl ?_; rintro _ _ ⟨rfl, hE⟩; have hs := hs.ext hE))
      | ((apply al_call 36; refine JL_o (by exact OpR_callF en36 rfl (rlown_r _ a n c l (hl.st hs))) rfl rfl ?_; rintro _ _ ⟨qs, a1, c1, ⟨hqm, hqo⟩, rfl, hf⟩; rw [← hE0] at hqm; have hs := hs.fresh hf; have hql : qs.length ≤ 30 := (by have := congrArg List.length hqm; rw [List.length_map] at this; omega); (try simp only [List.cons_append, List.nil_append] at hs)))
      | ((apply al_call 50; refine JL_o (by exact OpR_callF en50 rfl (rput_bad _ a1 qs.length c1 (qs.map meanQ) h (slQ hs (by repeat (first | exact List.Mem.head _ | apply List.Mem.tail)) (by repeat (first | exact List.Mem.head _ | apply List.Mem.tail)) hqo) ho (by omega) (by rw [hqm]; omega) (by rw [hqm]; exact hp))) rfl rfl ?_; rintro _ _ ⟨rfl, hE⟩; rw [hqm]; have hs := hs.ext hE; (try simp only [List.cons_append, List.nil_append] at hs)))
      | (apply JL_nil)
      | ((apply JL_pure); (first
      | (apply as_move; exact OpR_move rfl is_rfl)
      | (apply as_assign; exact OpR_assign rfl is_rfl)
      | (apply as_load; exact OpR_load_agg' hs rfl is_rfl)
      | (apply as_binOp; exact OpR_ibin rfl rfl rfl is_rfl)
      | (apply as_unOp; exact OpR_not rfl is_rfl)
      | (apply as_b_len; exact OpR_len rfl is_rfl)
      | (apply as_extract; exact OpR_extract rfl rfl is_rfl)); first | (exact rfl; exact rfl) | exact rfl)
      | (apply J_seq)
      | (apply J_region)
      | (apply J_skip)
      | (apply al_none (t := 3); refine JL_o (by apply as_box; exact OpR_box' hs rfl) rfl rfl ?_; rintro _ _ ⟨b3, rfl, hb3, hs, hE⟩)
      | (apply aj_cond; first | refine J_dec_t rfl ob ?_ | refine J_cond_f rfl gb ?_))
    refine J_leave Try.func9 rfl (.tmp rfl .nil) ⟨rfl, hs.frm.ext⟩
end Go.Eng
