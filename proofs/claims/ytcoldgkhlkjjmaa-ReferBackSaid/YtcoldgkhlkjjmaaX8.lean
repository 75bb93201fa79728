/- The texts K23, K25, K26, K27, joined. -/
import Derived.Test.YtcoldgkhlkjjmaaX4
/- Referrers: ReferTurn. -/
namespace Go.Eng
open Go.Proofs
set_option linter.unusedSimpArgs false
set_option linter.unusedVariables false
theorem right_of {A : List HH} (hs : sortedH A) (hm : ∀ x ∈ A, mayH x = true) (hl : A.length ≤ 20000) : rightH (ofH A) = true := by
  unfold rightH
  rw [allH_of hs, List.all_eq_true.2 hm, decide_eq_true hl]
  simp
theorem right_may {l : List RH} (h : rightH l = true) : (∀ x ∈ allH l, mayH x = true) ∧ (allH l).length ≤ 20000 := by
  unfold rightH at h
  rw [Bool.and_eq_true, Bool.and_eq_true] at h
  exact ⟨List.all_eq_true.1 h.1.1, of_decide_eq_true h.2⟩
theorem without_with {A : List HH} {h : HH} (hA : sortedH A) (hn : h ∉ A) : withoutH (withH A h) h = A :=
  sortedH_uniq (withoutH_sorted (withH_sorted hA h) h) hA fun x => by
    rw [withoutH_mem, withH_mem]
    constructor
    · rintro ⟨e | e, h2⟩
      · exact absurd e h2
      · exact e
    · intro e
      exact ⟨.inr e, fun e2 => hn (e2 ▸ e)⟩
/-- What was put: the referrers behind it, and behind its drop. -/
theorem put_facts {E : List RH} {h : HH} (hp : putC E h = 0) : rightH (ofH (withH (allH E) h)) = true ∧ allH (ofH (withH (allH E) h)) = withH (allH E) h ∧ dropC (ofH (withH (allH E) h)) h = 0 ∧ ofH (withoutH (allH (ofH (withH (allH E) h))) h) = E := by
  obtain ⟨hr, hm, hnot, h20⟩ := putC_zero hp
  obtain ⟨hall, hlen⟩ := right_may hr
  have hso := allH_sorted E
  have hsw := withH_sorted hso h
  have hR : rightH (ofH (withH (allH E) h)) = true := right_of hsw (fun x hx => by
    rcases withH_mem.1 hx with e | e
    · rw [e]; exact hm
    · exact hall x e) (by have := withH_len' (allH E) h; omega)
  have hA := allH_of hsw
  refine ⟨hR, hA, ?_, ?_⟩
  · unfold dropC
    rw [if_pos hR, if_pos hm, hA, if_pos (withH_mem.2 (.inl rfl))]
  · rw [hA, without_with hso hnot]
    exact (of_ok (right_ok.1 hr)).symm
theorem hold_mem {A : List HH} {h : HH} {n : Int} (hm : h ∈ A) (hn : mentB h.2 n = true) : h.1 ∈ holdM A n := by
  unfold holdM
  rw [(foldP_law _ [] List.Pairwise.nil).2]
  exact .inr (List.mem_map_of_mem (underH_mem.2 ⟨hm, hn⟩))
theorem tot_le {l : List RH} (h : OkR l) : tot l ≤ 2 * (allH l).length ∧ l.length ≤ 2 * (allH l).length := by
  obtain ⟨A, hA⟩ : ∃ A, A = allH l := ⟨_, rfl⟩
  have hof := of_ok h
  rw [← hA] at hof ⊢
  have hl : l.length = (idxH A).length := by conv => lhs; rw [hof]
                                             unfold ofH; rw [List.length_map]
  refine ⟨?_, by rw [hl]; exact idxH_len A⟩
  have hri := idxH_rising A
  rw [hof]
  unfold tot ofH
  have key : ∀ (B : List HH) (is_ : List Int), risingI is_ → ((is_.map fun n => (n, underH B n)).flatMap (·.2)).length ≤ 2 * B.length := by
    intro B is_ hri
    have h1 : ((is_.map fun n => (n, underH B n)).flatMap (·.2)).length = (is_.map fun n => (underH B n).length).sum := by
      rw [List.length_flatMap, List.map_map]; rfl
    rw [h1]
    clear h1
    induction B with
    | nil =>
      show (is_.map fun n => 0).sum ≤ 0
      clear hri
      induction is_ with
      | nil => exact Nat.le_refl _
      | cons n is_ ih => rw [List.map_cons, List.sum_cons]; omega
    | cons x B ih =>
      have h2 : ∀ js : List Int, (js.map fun n => (underH (x :: B) n).length).sum = (js.filter fun m => mentB x.2 m).length + (js.map fun n => (underH B n).length).sum := by
        intro js
        induction js with
        | nil => rfl
        | cons n js ih2 =>
          rw [List.map_cons, List.sum_cons, List.map_cons, List.sum_cons, List.filter_cons, ih2]
          unfold underH
          rw [List.filter_cons]
          by_cases e : mentB x.2 n = true
          · rw [if_pos e, if_pos e, List.length_cons, List.length_cons]; omega
          · rw [if_neg e, if_neg e]; omega
      have h3 : (is_.filter fun m => mentB x.2 m).length ≤ 2 := by
        have hnd : ∀ js : List Int, risingI js → (js.filter fun m => mentB x.2 m).length ≤ 2 := fun js hj => by
          have hs : (js.filter fun m => mentB x.2 m).Nodup := (List.Pairwise.imp (S := (· ≠ ·)) (fun {a b} h => by omega) hj).sublist List.filter_sublist
          have hsub : ∀ m ∈ js.filter (fun m => mentB x.2 m), m ∈ [(partsM x.2).1, (partsM x.2).2] := fun m hm => by
            rcases ment_iff.1 (List.mem_filter.1 hm).2 with e | e
            · rw [← e]; simp
            · rw [← e]; simp
          match hz : js.filter (fun m => mentB x.2 m), hs, hsub with
          | [], _, _ => simp
          | [_], _, _ => simp
          | [_, _], _, _ => simp
          | a :: b :: d :: zs, hs, hsub =>
            exfalso
            have ha := hsub a (by simp)
            have hb := hsub b (by simp)
            have hd := hsub d (by simp)
            simp only [List.mem_cons, List.not_mem_nil, or_false] at ha hb hd
            rw [List.nodup_cons, List.nodup_cons] at hs
            have n1 : a ≠ b := fun e => hs.1 (by simp [e])
            have n2 : a ≠ d := fun e => hs.1 (by simp [e])
            have n3 : b ≠ d := fun e => hs.2.1 (by simp [e])
            omega
        exact hnd is_ hri
      rw [h2, List.length_cons]
      omega
  exact key A (idxH A) hri
attribute [local irreducible] Hold J JL JD JX JXat OpR OpG Ret RetV Is Blk Row MapC
set_option maxRecDepth 100000
set_option maxHeartbeats 1000000
theorem requal1_r (w : World) (r q : RRef) (x y : RH) (h1 : mRef.rel All w r x) (h2 : mRef.rel All w q y) :
    Ret Try.prog 103 #[.agg (cRef r).toArray, .agg (cRef q).toArray] w fun v w' => v = .bool (decide (x = y)) ∧ Ext w w' := by
  refine Ret_of (l := [_, _]) Try.func103 rfl Try.ntmps103 (by simp) ?_
  have hs := St.init w
  have e1 : r.1 = x.1 := h1.1
  have e3 : q.1 = y.1 := h2.1
  have mx : Sl dHeld All w r.2.1 r.2.2.1 r.2.2.2 x.2 := h1.2
  have my : Sl dHeld All w q.2.1 q.2.2.1 q.2.2.2 y.2 := h2.2
  by_cases hc : r.1 = q.1
  · repeat' (first
      | ((apply al_callg 41; refine JL_o_on rfl gb (by exact OpR_callF en41 rfl (equalH_r _ r.2.1 q.2.1 r.2.2.1 r.2.2.2 q.2.2.1 q.2.2.2 x.2 y.2 (mx.st hs) (my.st hs))) rfl rfl ?_; rintro _ _ ⟨rfl, hE⟩; have hs := hs.ext hE; (try simp only [List.cons_append, List.nil_append] at hs)))
      | (apply JL_nil)
      | ((first | (apply JL_pure) | (apply JL_pure_on; exact rfl; exact gb)); (first
      | (apply as_move; exact OpR_move rfl is_rfl)
      | (apply as_assign; exact OpR_assign rfl is_rfl)
      | (apply as_fieldAddr; exact OpR_fieldAddr0 rfl rfl is_rfl)
      | (apply as_load; exact OpR_load' hs rfl rfl is_rfl)
      | (apply as_binOp; exact OpR_ibin rfl rfl rfl is_rfl)
      | (apply as_pick; exact OpR_pick_t rfl gb rfl is_rfl)); first | (exact rfl; exact rfl) | exact rfl)
      | (apply J_seq)
      | (apply J_region)
      | (apply al_none (t := 2); refine JL_o (by apply as_box; exact OpR_box' hs rfl) rfl rfl ?_; rintro _ _ ⟨b2, rfl, hb2, hs, hE⟩)
      | (apply al_none (t := 3); refine JL_o (by apply as_box; exact OpR_box' hs rfl) rfl rfl ?_; rintro _ _ ⟨b3, rfl, hb3, hs, hE⟩))
    refine J_leave Try.func103 rfl (.tmp rfl .nil) ⟨?_, hs.frm.ext⟩
    show Value.bool _ = Value.bool _
    congr 1
    rw [decide_eq_decide]
    exact ⟨fun e => Prod.ext (by rw [← e1, ← e3, hc]) e, fun e => by rw [e]⟩
  · repeat' (first
      | (apply JL_nil)
      | ((apply JL_pure); (first
      | (apply as_move; exact OpR_move rfl is_rfl)
      | (apply as_assign; exact OpR_assign rfl is_rfl)
      | (apply as_fieldAddr; exact OpR_fieldAddr0 rfl rfl is_rfl)
      | (apply as_load; exact OpR_load' hs rfl rfl is_rfl)
      | (apply as_binOp; exact OpR_ibin rfl rfl rfl is_rfl)
      | (apply as_pick; exact OpR_pick_f rfl gb rfl is_rfl)); first | (exact rfl; exact rfl) | exact rfl)
      | (apply J_seq)
      | (apply J_region)
      | (apply al_none (t := 2); refine JL_o (by apply as_box; exact OpR_box' hs rfl) rfl rfl ?_; rintro _ _ ⟨b2, rfl, hb2, hs, hE⟩)
      | (apply al_none (t := 3); refine JL_o (by apply as_box; exact OpR_box' hs rfl) rfl rfl ?_; rintro _ _ ⟨b3, rfl, hb3, hs, hE⟩)
      | (apply al_guard; (refine JL_no rfl gb rfl ?_)))
    refine J_leave Try.func103 rfl (.tmp rfl .nil) ⟨congrArg Value.bool (decide_eq_false (fun e => hc (by rw [e1, e3, e]))).symm, hs.frm.ext⟩
theorem requalF_r (w : World) (a1 a2 : Option Addr) (n1 c1 n2 c2 : Nat) (l1 l2 : List RH) (h1 : Sl dRef All w a1 n1 c1 l1) (h2 : Sl dRef All w a2 n2 c2 l2) :
    Ret Try.prog 102 #[.slice a1 n1 c1, .slice a2 n2 c2, .func (.func 103) #[] #[]] w fun v w' => v = .bool (decide (l1 = l2)) ∧ Ext w w' := by
  refine Ret_of (l := [_, _, _]) Try.func102 rfl Try.ntmps102 (by simp) ?_
  have hs := St.init w
  have hl1 := h1.len
  have hl2 := h2.len
  obtain ⟨rs1, hr1, hm1⟩ := Sl.raw (D := rawRef) h1
  obtain ⟨rs2, hr2, hm2⟩ := Sl.raw (D := rawRef) h2
  have hmx : n1 ≤ 9223372036854775807 := by have h3 := h1.le; have h4 := h1.cap; unfold maxLen at h4; omega
  by_cases hn : n1 = n2
  · subst hn
    repeat' (first
      | (apply JL_nil)
      | ((apply JL_pure); (first
      | (apply as_move; exact OpR_move rfl is_rfl)
      | (apply as_assign; exact OpR_assign rfl is_rfl)
      | (apply as_binOp; exact OpR_ibin rfl rfl rfl is_rfl)
      | (apply as_b_len; exact OpR_len rfl is_rfl)); first | (exact rfl; exact rfl) | exact rfl)
      | (apply J_seq)
      | (apply J_region)
      | (apply J_block)
      | (apply J_skip)
      | (apply aj_cond; refine J_dec_f rfl ob ?_))
    refine J_loopK (α := Nat) [(1, _), (2, _), (15, _), (16, _)] (fun k => [(17, .int .i64 k)]) (fun k w' => St w NoF w' [] ∧ k ≤ n1 ∧ l1.take k = l2.take k) (fun k => n1 - k) 0 ⟨hs, Nat.zero_le _, rfl⟩ (by repeat' (first | exact trivial | exact rfl | apply And.intro)) ?_
    rintro k w2 ⟨hs1, hk, heq⟩ ih
    have hs : St w NoF w2 [] := hs1
    by_cases hlt : k < n1
    · obtain ⟨p, o, rfl⟩ := hr1.sl.addr (by omega)
      obtain ⟨p2, o2, rfl⟩ := hr2.sl.addr (by omega)
      have hs : St w NoF w2 [] := hs1
      have hx : l1[k]? = some (l1[k]'(by omega)) := List.getElem?_eq_getElem (by omega)
      have hy : l2[k]? = some (l2[k]'(by omega)) := List.getElem?_eq_getElem (by omega)
      obtain ⟨x, hxd⟩ : ∃ x, x = l1[k]'(by omega) := ⟨_, rfl⟩
      obtain ⟨y, hyd⟩ : ∃ y, y = l2[k]'(by omega) := ⟨_, rfl⟩
      rw [← hxd] at hx
      rw [← hyd] at hy
      obtain ⟨r, hrx, hrel⟩ := hm1.get hx
      obtain ⟨q, hqy, hqel⟩ := hm2.get hy
      by_cases hc : x = y
      · repeat' (first
          | ((apply al_none (t := 29); refine JL_o (OpR_callV rfl rfl (Ret.value (cap := #[]) en103 (requal1_r _ r q x y (mRef.loc hrel (fun k _ hk => hs.frm.old k hk id)) (mRef.loc hqel (fun k _ hk => hs.frm.old k hk id))))) rfl rfl ?_; rintro _ _ ⟨rfl, hE⟩; rw [decide_eq_true hc]; have hs := hs.ext hE))
          | (apply JL_nil)
          | ((apply JL_pure); (first
      | (apply as_load; first | exact OpR_load' hs rfl rfl is_rfl | exact OpR_load_agg' hs rfl is_rfl | exact OpR_load_el (b := p) (o := o) (hr1.st hs) hrx rfl rfl is_rfl | exact OpR_load_el (b := p2) (o := o2) (hr2.st hs) hqy rfl rfl is_rfl)
      | (apply as_move; exact OpR_move rfl is_rfl)
      | (apply as_assign; exact OpR_assign rfl is_rfl)
      | (apply as_add; exact OpR_addn rfl rfl (by omega) (by first | (simp only [Int.reduceAdd]; exact rfl) | exact rfl) is_rfl)
      | (apply as_binOp; exact OpR_ibin rfl rfl rfl is_rfl)
      | (apply as_unOp; exact OpR_not rfl is_rfl)
      | (apply as_indexAddr; exact OpR_indexAddr rfl rfl (by omega) (by omega) is_rfl)); first | (exact rfl; exact rfl) | exact rfl)
          | (apply J_seq)
          | (apply J_region)
          | (apply J_block)
          | (apply J_inBlock)
          | (apply J_skip)
          | (apply al_none (t := 8); refine JL_o (by apply as_alloc; exact OpR_alloc' hs) rfl rfl ?_; rintro _ _ ⟨b8, rfl, hb8, hs, hE⟩)
          | (apply al_none (t := 9); refine JL_o (by apply as_alloc; exact OpR_alloc' hs) rfl rfl ?_; rintro _ _ ⟨b9, rfl, hb9, hs, hE⟩)
          | (apply al_unit; refine JL_u (by apply as_store; exact OpR_store' hs rfl rfl rfl) rfl ?_; rintro _ _ ⟨hs, hF⟩)
          | (apply aj_cond; first | refine J_dec_t rfl ob ?_ | refine J_cond_f rfl gb ?_))
        refine ih (k + 1) _ _ ⟨hs.sel [] (by decide), hlt, take_eq_succ hx (by rw [hc]; exact hy) heq⟩ (by omega) (by repeat' (first | exact trivial | exact rfl | apply And.intro))
      · repeat' (first
          | ((apply al_none (t := 29); refine JL_o (OpR_callV rfl rfl (Ret.value (cap := #[]) en103 (requal1_r _ r q x y (mRef.loc hrel (fun k _ hk => hs.frm.old k hk id)) (mRef.loc hqel (fun k _ hk => hs.frm.old k hk id))))) rfl rfl ?_; rintro _ _ ⟨rfl, hE⟩; rw [decide_eq_false hc]; have hs := hs.ext hE))
          | (apply JL_nil)
          | ((apply JL_pure); (first
      | (apply as_load; first | exact OpR_load' hs rfl rfl is_rfl | exact OpR_load_agg' hs rfl is_rfl | exact OpR_load_el (b := p) (o := o) (hr1.st hs) hrx rfl rfl is_rfl | exact OpR_load_el (b := p2) (o := o2) (hr2.st hs) hqy rfl rfl is_rfl)
      | (apply as_move; exact OpR_move rfl is_rfl)
      | (apply as_assign; exact OpR_assign rfl is_rfl)
      | (apply as_binOp; exact OpR_ibin rfl rfl rfl is_rfl)
      | (apply as_unOp; exact OpR_not rfl is_rfl)
      | (apply as_indexAddr; exact OpR_indexAddr rfl rfl (by omega) (by omega) is_rfl)); first | (exact rfl; exact rfl) | exact rfl)
          | (apply J_seq)
          | (apply J_region)
          | (apply J_block)
          | (apply J_skip)
          | (apply al_none (t := 8); refine JL_o (by apply as_alloc; exact OpR_alloc' hs) rfl rfl ?_; rintro _ _ ⟨b8, rfl, hb8, hs, hE⟩)
          | (apply al_none (t := 9); refine JL_o (by apply as_alloc; exact OpR_alloc' hs) rfl rfl ?_; rintro _ _ ⟨b9, rfl, hb9, hs, hE⟩)
          | (apply al_unit; refine JL_u (by apply as_store; exact OpR_store' hs rfl rfl rfl) rfl ?_; rintro _ _ ⟨hs, hF⟩)
          | (apply aj_cond; first | refine J_dec_t rfl ob ?_ | refine J_cond_t rfl gb ?_))
        refine J_leave Try.func102 rfl (.tmp rfl .nil) ⟨congrArg Value.bool (decide_eq_false fun e => hc (by subst e; rw [hx] at hy; exact Option.some.inj hy)).symm, hs.frm.ext⟩
    · rw [List.take_of_length_le (by omega), List.take_of_length_le (by omega)] at heq
      repeat' (first
        | (apply JL_nil)
        | ((apply JL_pure); (first
      | (apply as_assign; exact OpR_assign rfl is_rfl)
      | (apply as_binOp; exact OpR_ibin rfl rfl rfl is_rfl)); first | (exact rfl; exact rfl) | exact rfl)
        | (apply J_seq)
        | (apply J_region)
        | (apply aj_exit; refine J_exit rfl ?_)
        | (apply aj_cond; refine J_dec_f rfl ob ?_))
      refine J_leave Try.func102 rfl (.tmp rfl .nil) ⟨congrArg Value.bool (decide_eq_true heq).symm, hs.frm.ext⟩
  · repeat' (first
      | (apply JL_nil)
      | ((apply JL_pure); (first
      | (apply as_move; exact OpR_move rfl is_rfl)
      | (apply as_assign; exact OpR_assign rfl is_rfl)
      | (apply as_binOp; exact OpR_ibin rfl rfl rfl is_rfl)
      | (apply as_b_len; exact OpR_len rfl is_rfl)); first | (exact rfl; exact rfl) | exact rfl)
      | (apply J_seq)
      | (apply J_region)
      | (apply aj_cond; refine J_dec_t rfl ob ?_))
    refine J_leave Try.func102 rfl (.tmp rfl .nil) ⟨congrArg Value.bool (decide_eq_false fun e => hn (by rw [← hl1, ← hl2, e])).symm, hs.frm.ext⟩
theorem requal_r (w : World) (a1 a2 : Option Addr) (n1 c1 n2 c2 : Nat) (l1 l2 : List RH) (h1 : Sl dRef All w a1 n1 c1 l1) (h2 : Sl dRef All w a2 n2 c2 l2) :
    Ret Try.prog 53 #[.slice a1 n1 c1, .slice a2 n2 c2] w fun v w' => v = .bool (decide (l1 = l2)) ∧ Ext w w' := by
  refine Ret_of (l := [_, _]) Try.func53 rfl Try.ntmps53 (by simp) ?_
  have hs := St.init w
  repeat' (first
    | ((apply al_call 102; refine JL_o (by exact OpR_callF en102 rfl (requalF_r _ a1 a2 n1 c1 n2 c2 l1 l2 (h1.st hs) (h2.st hs))) rfl rfl ?_; rintro _ _ ⟨rfl, hE⟩; have hs := hs.ext hE; (try simp only [List.cons_append, List.nil_append] at hs)))
    | (apply JL_nil)
    | ((apply JL_pure); (first
      | (apply as_move; exact OpR_move rfl is_rfl)
      | (apply as_assign; exact OpR_assign rfl is_rfl)); first | (exact rfl; exact rfl) | exact rfl)
    | (apply J_seq)
    | (apply J_region))
  refine J_leave Try.func53 rfl (.tmp rfl .nil) ⟨rfl, hs.frm.ext⟩
end Go.Eng
/- Referrers: the pairs of a type that another one has not. -/
namespace Go.Eng
open Go.Proofs
set_option linter.unusedSimpArgs false
set_option linter.unusedVariables false
theorem row_blk {w W : World} {F : Nat → Prop} {L : List HP} {a : Option Addr} {n c e sz b : Nat} {xs : List Value} {o : Obj} (hs : St w F W (Row a n c e sz xs :: Blk b o :: L)) : ¬ afoot a b := fun h => List.rel_of_pairwise_cons hs.sep (List.Mem.head _) b h rfl
def pairsM (a b : List Int) : List Int := a.filter fun x => !(decide (kindM x ≠ 3) || decide (x ∈ b))
theorem pairs_mem {a b : List Int} {x : Int} : x ∈ pairsM a b ↔ x ∈ a ∧ kindM x = 3 ∧ x ∉ b := by
  unfold pairsM
  rw [List.mem_filter]
  simp
theorem pairs_len (a b : List Int) : (pairsM a b).length ≤ a.length := List.length_filter_le _ _
attribute [local irreducible] Hold J JL JD JX JXat OpR OpG Ret RetV Is Blk Row MapC
set_option maxRecDepth 100000
set_option maxHeartbeats 1000000
theorem cloneI_r (w : World) (a : Option Addr) (n c : Nat) (xs : List Int) (h : Sl dId All w a n c xs) (hn : n ≤ 4000000000) :
    Ret Try.prog 23 #[.slice a n c] w fun v w' => ∃ a' c', v = .slice a' n c' ∧ Fresh w w' [Row a' n c' 41 1 (encL cId xs)] := by
  obtain ⟨h1, h2, _⟩ := h.srcF
  exact cloneId_r w a n c _ h1 h2 hn
theorem indexId_r (w : World) (a : Option Addr) (n c : Nat) (xs : List Int) (x : Int) (h : Sl dId All w a n c xs) :
    Ret Try.prog 159 #[.slice a n c, .int .u64 x] w fun v w' => ∃ i : Int, (0 ≤ i ↔ x ∈ xs) ∧ v = .int .i64 i ∧ Ext w w' := by
  refine Ret_of (l := [_, _]) Try.func159 rfl Try.ntmps159 (by simp) ?_
  have hs := St.init w
  have hl := h.len
  have hmx : n ≤ 9223372036854775807 := by have h3 := h.le; have h4 := h.cap; unfold maxLen at h4; omega
  repeat' (first
    | (apply JL_nil)
    | ((apply JL_pure); (first
      | (apply as_move; exact OpR_move rfl is_rfl)
      | (apply as_assign; exact OpR_assign rfl is_rfl)
      | (apply as_b_len; exact OpR_len rfl is_rfl)); first | (exact rfl; exact rfl) | exact rfl)
    | (apply J_seq)
    | (apply J_region)
    | (apply J_block))
  refine J_loopK (α := Nat) [(0, _), (1, _), (7, _)] (fun k => [(8, .int .i64 k)]) (fun k w' => St w NoF w' [] ∧ k ≤ n ∧ x ∉ xs.take k) (fun k => n - k) 0 ⟨hs, Nat.zero_le _, (by simp)⟩ (by repeat' (first | exact trivial | exact rfl | apply And.intro)) ?_
  rintro k w2 ⟨hs1, hk, hno⟩ ih
  have hs : St w NoF w2 [] := hs1
  by_cases hlt : k < n
  · obtain ⟨p, o, rfl⟩ := h.sl.addr (by omega)
    have hs : St w NoF w2 [] := hs1
    have hx : xs[k]? = some (xs[k]'(by omega)) := List.getElem?_eq_getElem (by omega)
    obtain ⟨y, hyd⟩ : ∃ y, y = xs[k]'(by omega) := ⟨_, rfl⟩
    rw [← hyd] at hx
    by_cases hc : x = y
    · repeat' (first
        | (apply JL_nil)
        | ((apply JL_pure); (first
      | (apply as_load; exact OpR_load_el1 (i := k) (j := 0) (h.st hs) hx rfl rfl rfl is_rfl)
      | (apply as_move; exact OpR_move rfl is_rfl)
      | (apply as_assign; exact OpR_assign rfl is_rfl)
      | (apply as_binOp; exact OpR_ibin rfl rfl rfl is_rfl)
      | (apply as_indexAddr; exact OpR_indexAddr rfl rfl (by omega) (by omega) is_rfl)); first | (exact rfl; exact rfl) | exact rfl)
        | (apply J_seq)
        | (apply J_region)
        | (apply J_block)
        | (apply J_skip)
        | (apply aj_cond; refine J_dec_t rfl ob ?_))
      refine J_leave Try.func159 rfl (.tmp rfl .nil) ⟨k, ⟨fun _ => hc ▸ List.mem_of_getElem? hx, fun _ => by omega⟩, rfl, hs.frm.ext⟩
    · repeat' (first
        | (apply JL_nil)
        | ((apply JL_pure); (first
      | (apply as_load; exact OpR_load_el1 (i := k) (j := 0) (h.st hs) hx rfl rfl rfl is_rfl)
      | (apply as_move; exact OpR_move rfl is_rfl)
      | (apply as_assign; exact OpR_assign rfl is_rfl)
      | (apply as_add; exact OpR_addn rfl rfl (by omega) (by first | (simp only [Int.reduceAdd]; exact rfl) | exact rfl) is_rfl)
      | (apply as_binOp; exact OpR_ibin rfl rfl rfl is_rfl)
      | (apply as_indexAddr; exact OpR_indexAddr rfl rfl (by omega) (by omega) is_rfl)); first | (exact rfl; exact rfl) | exact rfl)
        | (apply J_seq)
        | (apply J_region)
        | (apply J_block)
        | (apply J_inBlock)
        | (apply J_skip)
        | (apply aj_cond; first | refine J_dec_t rfl ob ?_ | refine J_dec_f rfl ob ?_))
      refine ih (k + 1) _ _ ⟨hs, hlt, fun hm => ?_⟩ (by omega) (by repeat' (first | exact trivial | exact rfl | apply And.intro))
      rw [List.take_add_one, hx] at hm
      rcases List.mem_append.1 hm with e | e
      · exact hno e
      · exact hc (by simpa using e)
  · rw [List.take_of_length_le (by omega)] at hno
    repeat' (first
      | (apply JL_nil)
      | ((apply JL_pure); (first
      | (apply as_assign; exact OpR_assign rfl is_rfl)
      | (apply as_binOp; exact OpR_ibin rfl rfl rfl is_rfl)); first | (exact rfl; exact rfl) | exact rfl)
      | (apply J_seq)
      | (apply J_region)
      | (apply aj_exit; refine J_exit rfl ?_)
      | (apply aj_cond; refine J_dec_f rfl ob ?_))
    refine J_leave Try.func159 rfl (.tmp rfl .nil) ⟨-1, ⟨fun e => absurd e (by decide), fun e => absurd e hno⟩, rfl, hs.frm.ext⟩
theorem contId_r (w : World) (a : Option Addr) (n c : Nat) (xs : List Int) (x : Int) (h : Sl dId All w a n c xs) :
    Ret Try.prog 143 #[.slice a n c, .int .u64 x] w fun v w' => v = .bool (decide (x ∈ xs)) ∧ Ext w w' := by
  refine Ret_of (l := [_, _]) Try.func143 rfl Try.ntmps143 (by simp) ?_
  have hs := St.init w
  repeat' (first
    | ((apply al_call 159; refine JL_o (by exact OpR_callF en159 rfl (indexId_r _ a n c xs x (h.st hs))) rfl rfl ?_; rintro _ _ ⟨i, hi, rfl, hE⟩; have hs := hs.ext hE; (try simp only [List.cons_append, List.nil_append] at hs)))
    | (apply JL_nil)
    | ((apply JL_pure); (first
      | (apply as_move; exact OpR_move rfl is_rfl)
      | (apply as_assign; exact OpR_assign rfl is_rfl)
      | (apply as_binOp; exact OpR_ibin rfl rfl rfl is_rfl)); first | (exact rfl; exact rfl) | exact rfl)
    | (apply J_seq)
    | (apply J_region))
  refine J_leave Try.func143 rfl (.tmp rfl .nil) ⟨congrArg Value.bool (by rw [decide_eq_decide]; exact hi), hs.frm.ext⟩
theorem rpairs1_r (w : World) (x : Int) (b1 : Nat) (a : Option Addr) (n c : Nat) (ys : List Int) (hx : okId x) (hb1 : w.heap[b1]? = some (.cells #[.slice a n c] 34 (0, 0))) (h : Sl dId All w a n c ys) : Ret Try.prog 142 #[.int .u64 x, ptr b1] w fun v w' => v = .bool (decide (kindM x ≠ 3) || decide (x ∈ ys)) ∧ Ext w w' := by
  refine Ret_of (l := [_, _]) Try.func142 rfl Try.ntmps142 (by simp) ?_
  have hs := St.init w
  have hb1l := (Array.getElem?_eq_some_iff.1 hb1).1
  by_cases hk : kindM x = 3
  · have hk2 : ¬ (kindM x ≠ 3) := fun e => e hk
    repeat' (first
      | ((apply al_call 93; refine JL_o (by exact OpR_callF en93 rfl (kind_r _ x hx)) rfl rfl ?_; rintro _ _ ⟨rfl, hE⟩; have hs := hs.ext hE; (try simp only [List.cons_append, List.nil_append] at hs)))
      | ((apply al_callg 143; refine JL_o_on rfl gb (by exact OpR_callF en143 rfl (contId_r _ a n c ys x (h.st hs))) rfl rfl ?_; rintro _ _ ⟨rfl, hE⟩; have hs := hs.ext hE; (try simp only [List.cons_append, List.nil_append] at hs)))
      | (apply JL_nil)
      | ((first | (apply JL_pure) | (apply JL_pure_on; exact rfl; exact gb)); (first
      | (apply as_load; exact OpR_load_cell (v := .slice a n c) (cell_blk ((hs.frm.old b1 hb1l id).trans hb1) rfl) rfl is_rfl)
      | (apply as_move; exact OpR_move rfl is_rfl)
      | (apply as_assign; exact OpR_assign rfl is_rfl)
      | (apply as_binOp; exact OpR_ibin rfl rfl rfl is_rfl)
      | (apply as_pick; exact OpR_pick_f rfl gb rfl is_rfl)); first | (exact rfl; exact rfl) | exact rfl)
      | (apply J_seq)
      | (apply J_region))
    refine J_leave Try.func142 rfl (.tmp rfl .nil) ⟨?_, hs.frm.ext⟩
    rw [decide_eq_false (p := kindM x ≠ 3) (by simp [hk])]; rfl
  · repeat' (first
      | ((apply al_call 93; refine JL_o (by exact OpR_callF en93 rfl (kind_r _ x hx)) rfl rfl ?_; rintro _ _ ⟨rfl, hE⟩; have hs := hs.ext hE; (try simp only [List.cons_append, List.nil_append] at hs)))
      | (apply JL_nil)
      | ((apply JL_pure); (first
      | (apply as_move; exact OpR_move rfl is_rfl)
      | (apply as_assign; exact OpR_assign rfl is_rfl)
      | (apply as_binOp; exact OpR_ibin rfl rfl rfl is_rfl)
      | (apply as_pick; exact OpR_pick_t rfl gb rfl is_rfl)); first | (exact rfl; exact rfl) | exact rfl)
      | (apply J_seq)
      | (apply J_region)
      | (apply al_guard; (refine JL_no rfl gb rfl ?_)))
    refine J_leave Try.func142 rfl (.tmp rfl .nil) ⟨?_, hs.frm.ext⟩
    rw [decide_eq_true (p := kindM x ≠ 3) hk]; rfl
theorem rpairs_r (w : World) (a1 a2 : Option Addr) (n1 c1 n2 c2 : Nat) (xs ys : List Int) (h1 : Sl dId All w a1 n1 c1 xs) (h2 : Sl dId All w a2 n2 c2 ys) (hn : n1 ≤ 1000000) :
    Ret Try.prog 105 #[.slice a1 n1 c1, .slice a2 n2 c2] w fun v w' => ∃ a' c', v = .slice a' (pairsM xs ys).length c' ∧ Fresh w w' [Row a' (pairsM xs ys).length c' 41 1 (encL cId (pairsM xs ys))] := by
  refine Ret_of (l := [_, _]) Try.func105 rfl Try.ntmps105 (by simp) ?_
  have hs := St.init w
  have hok : ∀ x ∈ xs, okId x := fun x hx => by
    obtain ⟨i, hi⟩ := List.mem_iff_getElem?.1 hx
    exact (h1.elF hi).1
  repeat' (first
    | ((apply al_call 23; refine JL_o (by exact OpR_callF en23 rfl (cloneI_r _ a1 n1 c1 xs (h1.st hs) (by omega))) rfl rfl ?_; rintro _ _ ⟨a3, c3, rfl, hf⟩; have hs := hs.fresh hf; (try simp only [List.cons_append, List.nil_append] at hs)))
    | ((apply al_none (t := 8); refine JL_o (OpR_callF en141 rfl (delFId_r _ a3 n1 c3 xs (St.held (A := [_]) hs) hok (by omega) 142 #[ptr b3] en142 (fun x => decide (kindM x ≠ 3) || decide (x ∈ ys)) (fun W hW x hx => rpairs1_r W x b3 a2 n2 c2 ys (hok x hx) ((hW b3 (hs.lt (b := b3)) (row_blk hs)).trans (hs.blk (b := b3))) (h2.loc (fun k _ hk => (hW k (Nat.lt_of_lt_of_le hk hs.frm.size) (row_ge hs k hk)).trans (hs.frm.old k hk id)))))) rfl rfl ?_; rintro _ _ ⟨rfl, ht⟩; have hs := St.take (A := [_]) (A' := [_]) hs ht; simp only [List.cons_append, List.nil_append] at hs))
    | (apply JL_nil)
    | ((apply JL_pure); (first
      | (apply as_move; exact OpR_move rfl is_rfl)
      | (apply as_assign; exact OpR_assign rfl is_rfl)
      | (apply as_makeFunc; exact OpR_func rfl is_rfl)); first | (exact rfl; exact rfl) | exact rfl)
    | (apply J_seq)
    | (apply J_region)
    | (apply al_none (t := 3); refine JL_o (by apply as_box; exact OpR_box' hs rfl) rfl rfl ?_; rintro _ _ ⟨b3, rfl, hb3, hs, hE⟩))
  refine J_leave Try.func105 rfl (.tmp rfl .nil) ⟨a3, c3, rfl, hs.out (.cons_cons _ (List.nil_sublist _))⟩
end Go.Eng
/- Referrers: Retype. -/
namespace Go.Eng
open Go.Proofs
set_option linter.unusedSimpArgs false
set_option linter.unusedVariables false
/-- One thing more, or less, of referrers; behind an error nothing. -/
def stepM (op : Bool) (s : List RH × Int) (h : HH) : List RH × Int :=
  if s.2 = 0 then (if op then (if putC s.1 h = 0 then (ofH (withH (allH s.1) h), 0) else ([], putC s.1 h)) else (if dropC s.1 h = 0 then (ofH (withoutH (allH s.1) h), 0) else ([], dropC s.1 h))) else s
def runM (op : Bool) (x : Int) (s : List RH × Int) (xs : List Int) : List RH × Int := xs.foldl (fun s id => stepM op s (x, id)) s
def retM (l : List RH) (x : Int) (was is_ : List Int) : List RH × Int :=
  if rightH l then (if (typeB was && typeB is_) = true then (if 1 ≤ x ∧ x ≤ 1048578 then runM true x (runM false x (l, 0) (pairsM was is_)) (pairsM is_ was) else ([], 2)) else ([], 130)) else ([], 250)
theorem stepM_bad {op : Bool} {s : List RH × Int} (h : HH) (e : s.2 ≠ 0) : stepM op s h = s := by unfold stepM; rw [if_neg e]
theorem runM_bad {op : Bool} {x : Int} : ∀ {xs : List Int} {s : List RH × Int}, s.2 ≠ 0 → runM op x s xs = s
  | [], _, _ => rfl
  | id :: xs, s, e => by
    show runM op x (stepM op s (x, id)) xs = s
    rw [stepM_bad _ e]; exact runM_bad e
theorem runM_app {op : Bool} {x : Int} {s : List RH × Int} (xs ys : List Int) : runM op x s (xs ++ ys) = runM op x (runM op x s xs) ys := by unfold runM; rw [List.foldl_append]
theorem runM_succ {op : Bool} {x : Int} {s : List RH × Int} {xs : List Int} {k : Nat} {id : Int} (h : xs[k]? = some id) : runM op x s (xs.take (k + 1)) = stepM op (runM op x s (xs.take k)) (x, id) := by
  rw [List.take_add_one, h]
  show runM op x s (xs.take k ++ [id]) = _
  rw [runM_app]; rfl
theorem runM_stop {op : Bool} {x : Int} {s : List RH × Int} {xs : List Int} (k : Nat) (e : (runM op x s (xs.take k)).2 ≠ 0) : runM op x s xs = runM op x s (xs.take k) := by
  conv => lhs; rw [← List.take_append_drop k xs]
  rw [runM_app, runM_bad e]
theorem stepM_none {op : Bool} {s : List RH × Int} {h : HH} (hs : s.2 ≠ 0 → s.1 = []) : (stepM op s h).2 ≠ 0 → (stepM op s h).1 = [] := by
  intro e
  by_cases h0 : s.2 = 0
  · unfold stepM at e ⊢
    rw [if_pos h0] at e ⊢
    cases op with
    | true =>
      rw [if_pos rfl] at e ⊢
      by_cases hp : putC s.1 h = 0
      · rw [if_pos hp] at e; exact absurd rfl e
      · rw [if_neg hp]
    | false =>
      rw [if_neg (by decide)] at e ⊢
      by_cases hp : dropC s.1 h = 0
      · rw [if_pos hp] at e; exact absurd rfl e
      · rw [if_neg hp]
  · rw [stepM_bad _ h0]; exact hs h0
theorem runM_none {op : Bool} {x : Int} : ∀ {xs : List Int} {s : List RH × Int}, (s.2 ≠ 0 → s.1 = []) → (runM op x s xs).2 ≠ 0 → (runM op x s xs).1 = []
  | [], _, hs => hs
  | id :: xs, s, hs => runM_none (xs := xs) (s := stepM op s (x, id)) (stepM_none hs)
theorem retM_none {l : List RH} {x : Int} {was is_ : List Int} (e : (retM l x was is_).2 ≠ 0) : (retM l x was is_).1 = [] := by
  unfold retM at e ⊢
  by_cases h1 : rightH l = true
  · rw [if_pos h1] at e ⊢
    by_cases h2 : (typeB was && typeB is_) = true
    · rw [if_pos h2] at e ⊢
      by_cases h3 : 1 ≤ x ∧ x ≤ 1048578
      · rw [if_pos h3] at e ⊢
        exact runM_none (runM_none (fun h => absurd rfl h)) e
      · rw [if_neg h3]
    · rw [if_neg h2]
  · rw [if_neg h1]
/-- A step that is done: what it comes from, and to. -/
theorem stepP {L : List RH} {h : HH} (e : (stepM true (L, 0) h).2 = 0) : putC L h = 0 ∧ stepM true (L, 0) h = (ofH (withH (allH L) h), 0) := by
  unfold stepM at e ⊢
  rw [if_pos rfl, if_pos rfl] at e ⊢
  by_cases hp : putC L h = 0
  · exact ⟨hp, if_pos hp⟩
  · rw [if_neg hp] at e; exact absurd e hp
theorem stepD {L : List RH} {h : HH} (e : (stepM false (L, 0) h).2 = 0) : dropC L h = 0 ∧ stepM false (L, 0) h = (ofH (withoutH (allH L) h), 0) := by
  unfold stepM at e ⊢
  rw [if_pos rfl, if_neg (by decide)] at e ⊢
  by_cases hp : dropC L h = 0
  · exact ⟨hp, if_pos hp⟩
  · rw [if_neg hp] at e; exact absurd e hp
theorem stepP_of {L : List RH} {h : HH} (hp : putC L h = 0) : stepM true (L, 0) h = (ofH (withH (allH L) h), 0) := by unfold stepM; rw [if_pos rfl, if_pos rfl]; exact if_pos hp
theorem stepD_of {L : List RH} {h : HH} (hp : dropC L h = 0) : stepM false (L, 0) h = (ofH (withoutH (allH L) h), 0) := by unfold stepM; rw [if_pos rfl, if_neg (by decide)]; exact if_pos hp
theorem put_right {L : List RH} {h : HH} (hp : putC L h = 0) : rightH (ofH (withH (allH L) h)) = true ∧ allH (ofH (withH (allH L) h)) = withH (allH L) h := ⟨(put_facts hp).1, (put_facts hp).2.1⟩
theorem drop_right {L : List RH} {h : HH} (hp : dropC L h = 0) : rightH (ofH (withoutH (allH L) h)) = true ∧ allH (ofH (withoutH (allH L) h)) = withoutH (allH L) h := by
  obtain ⟨hr, hm, hin⟩ := dropC_zero hp
  obtain ⟨hall, hlen⟩ := right_may hr
  have hsw := withoutH_sorted (allH_sorted L) h
  refine ⟨right_of hsw (fun x hx => hall x (withoutH_mem.1 hx).1) (Nat.le_trans (List.length_filter_le _ _) hlen), allH_of hsw⟩
theorem step_right {op : Bool} {L : List RH} {h : HH} (e : (stepM op (L, 0) h).2 = 0) : rightH (stepM op (L, 0) h).1 = true := by
  cases op with
  | true => obtain ⟨hp, hq⟩ := stepP e; rw [hq]; exact (put_right hp).1
  | false => obtain ⟨hp, hq⟩ := stepD e; rw [hq]; exact (drop_right hp).1
theorem without_len {A : List HH} {h : HH} (hm : h ∈ A) : (withoutH A h).length + 1 ≤ A.length := by
  have : (withoutH A h).length < A.length := by
    unfold withoutH
    exact List.length_filter_lt_length_iff_exists.2 ⟨h, hm, by simp⟩
  omega
/-- Drops that were done: they were there, each once. -/
theorem drops_inv {x : Int} : ∀ {xs : List Int} {L : List RH}, rightH L = true → (runM false x (L, 0) xs).2 = 0 →
    ∃ L', runM false x (L, 0) xs = (L', 0) ∧ rightH L' = true ∧ xs.Nodup ∧ (∀ i ∈ xs, mayH (x, i) = true ∧ (x, i) ∈ allH L) ∧ (allH L').length + xs.length ≤ (allH L).length ∧ ∀ z, z ∈ allH L' ↔ z ∈ allH L ∧ ∀ i ∈ xs, z ≠ (x, i)
  | [], L, hr, _ => ⟨L, rfl, hr, List.nodup_nil, (fun i hi => by cases hi), (by simp), fun z => ⟨fun h => ⟨h, fun i hi => by cases hi⟩, fun h => h.1⟩⟩
  | i :: xs, L, hr, e => by
    have e : (runM false x (stepM false (L, 0) (x, i)) xs).2 = 0 := e
    by_cases h0 : (stepM false (L, 0) (x, i)).2 = 0
    · obtain ⟨hp, hq⟩ := stepD h0
      obtain ⟨hr1, hA1⟩ := drop_right hp
      obtain ⟨_, hm, hin⟩ := dropC_zero hp
      rw [hq] at e
      obtain ⟨L', h1, h2, h3, h4, h5, h6⟩ := drops_inv hr1 e
      rw [hA1] at h4 h5 h6
      have hl := without_len hin
      refine ⟨L', by show runM false x (stepM false (L, 0) (x, i)) xs = _; rw [hq]; exact h1, h2, List.nodup_cons.2 ⟨fun hi => (withoutH_mem.1 (h4 i hi).2).2 rfl, h3⟩, fun j hj => ?_, by rw [List.length_cons]; omega, fun z => ?_⟩
      · rcases List.mem_cons.1 hj with rfl | hj
        · exact ⟨hm, hin⟩
        · exact ⟨(h4 j hj).1, (withoutH_mem.1 (h4 j hj).2).1⟩
      · rw [h6, withoutH_mem]
        constructor
        · rintro ⟨⟨ha, hb⟩, hc⟩
          refine ⟨ha, fun j hj => ?_⟩
          rcases List.mem_cons.1 hj with rfl | hj
          · exact hb
          · exact hc j hj
        · rintro ⟨ha, hb⟩
          exact ⟨⟨ha, hb i List.mem_cons_self⟩, fun j hj => hb j (List.mem_cons_of_mem _ hj)⟩
    · rw [runM_bad h0] at e
      exact absurd e h0
theorem puts_inv {x : Int} : ∀ {xs : List Int} {L : List RH}, rightH L = true → (runM true x (L, 0) xs).2 = 0 →
    ∃ L', runM true x (L, 0) xs = (L', 0) ∧ rightH L' = true ∧ xs.Nodup ∧ (∀ i ∈ xs, mayH (x, i) = true ∧ (x, i) ∉ allH L) ∧ ∀ z, z ∈ allH L' ↔ z ∈ allH L ∨ ∃ i ∈ xs, z = (x, i)
  | [], L, hr, _ => ⟨L, rfl, hr, List.nodup_nil, (fun i hi => by cases hi), fun z => ⟨.inl, fun h => h.resolve_right (by rintro ⟨i, hi, _⟩; cases hi)⟩⟩
  | i :: xs, L, hr, e => by
    have e : (runM true x (stepM true (L, 0) (x, i)) xs).2 = 0 := e
    by_cases h0 : (stepM true (L, 0) (x, i)).2 = 0
    · obtain ⟨hp, hq⟩ := stepP h0
      obtain ⟨hr1, hA1⟩ := put_right hp
      obtain ⟨_, hm, hnot, _⟩ := putC_zero hp
      rw [hq] at e
      obtain ⟨L', h1, h2, h3, h4, h6⟩ := puts_inv hr1 e
      rw [hA1] at h4 h6
      refine ⟨L', by show runM true x (stepM true (L, 0) (x, i)) xs = _; rw [hq]; exact h1, h2, List.nodup_cons.2 ⟨fun hi => (h4 i hi).2 (withH_mem.2 (.inl rfl)), h3⟩, fun j hj => ?_, fun z => ?_⟩
      · rcases List.mem_cons.1 hj with rfl | hj
        · exact ⟨hm, hnot⟩
        · exact ⟨(h4 j hj).1, fun h => (h4 j hj).2 (withH_mem.2 (.inr h))⟩
      · rw [h6, withH_mem]
        constructor
        · rintro ((rfl | ha) | ⟨j, hj, rfl⟩)
          · exact .inr ⟨i, List.mem_cons_self, rfl⟩
          · exact .inl ha
          · exact .inr ⟨j, List.mem_cons_of_mem _ hj, rfl⟩
        · rintro (ha | ⟨j, hj, rfl⟩)
          · exact .inl (.inr ha)
          · rcases List.mem_cons.1 hj with rfl | hj
            · exact .inl (.inl rfl)
            · exact .inr ⟨j, hj, rfl⟩
    · rw [runM_bad h0] at e
      exact absurd e h0
theorem drops_do {x : Int} : ∀ {xs : List Int} {L : List RH}, rightH L = true → xs.Nodup → (∀ i ∈ xs, mayH (x, i) = true ∧ (x, i) ∈ allH L) → (runM false x (L, 0) xs).2 = 0
  | [], _, _, _, _ => rfl
  | i :: xs, L, hr, hn, h => by
    obtain ⟨hm, hin⟩ := h i List.mem_cons_self
    have hp : dropC L (x, i) = 0 := by unfold dropC; rw [if_pos hr, if_pos hm, if_pos hin]
    obtain ⟨hr1, hA1⟩ := drop_right hp
    rw [List.nodup_cons] at hn
    show (runM false x (stepM false (L, 0) (x, i)) xs).2 = 0
    rw [stepD_of hp]
    refine drops_do hr1 hn.2 fun j hj => ⟨(h j (List.mem_cons_of_mem _ hj)).1, ?_⟩
    rw [hA1]
    exact withoutH_mem.2 ⟨(h j (List.mem_cons_of_mem _ hj)).2, fun e => hn.1 (by have e2 : j = i := congrArg Prod.snd e; exact e2 ▸ hj)⟩
theorem puts_do {x : Int} : ∀ {xs : List Int} {L : List RH}, rightH L = true → xs.Nodup → (∀ i ∈ xs, mayH (x, i) = true ∧ (x, i) ∉ allH L) → (allH L).length + xs.length ≤ 20000 → (runM true x (L, 0) xs).2 = 0
  | [], _, _, _, _, _ => rfl
  | i :: xs, L, hr, hn, h, hl => by
    rw [List.length_cons] at hl
    obtain ⟨hm, hin⟩ := h i List.mem_cons_self
    have hp : putC L (x, i) = 0 := by unfold putC; rw [if_pos hr, if_pos hm, if_neg hin, if_neg (by omega)]
    obtain ⟨hr1, hA1⟩ := put_right hp
    rw [List.nodup_cons] at hn
    show (runM true x (stepM true (L, 0) (x, i)) xs).2 = 0
    rw [stepP_of hp]
    refine puts_do hr1 hn.2 (fun j hj => ⟨(h j (List.mem_cons_of_mem _ hj)).1, ?_⟩) (by rw [hA1]; have := withH_len' (allH L) (x, i); omega)
    rw [hA1]
    intro e
    rcases withH_mem.1 e with e | e
    · exact hn.1 (by have e2 : j = i := congrArg Prod.snd e; exact e2 ▸ hj)
    · exact (h j (List.mem_cons_of_mem _ hj)).2 e
theorem right_eq {L L' : List RH} (h : rightH L = true) (h' : rightH L' = true) (hz : ∀ z, z ∈ allH L ↔ z ∈ allH L') : L = L' := by
  rw [of_ok (right_ok.1 h), of_ok (right_ok.1 h'), sortedH_uniq (allH_sorted L) (allH_sorted L') hz]
/-- Retyped there, and back. -/
theorem retype_back {L : List RH} {x : Int} {was is_ : List Int} (e : (retM L x was is_).2 = 0) : rightH (retM L x was is_).1 = true ∧ retM (retM L x was is_).1 x is_ was = (L, 0) := by
  by_cases h1 : rightH L = true
  · by_cases h2 : (typeB was && typeB is_) = true
    · by_cases h3 : 1 ≤ x ∧ x ≤ 1048578
      · have hre : retM L x was is_ = runM true x (runM false x (L, 0) (pairsM was is_)) (pairsM is_ was) := by unfold retM; rw [if_pos h1, if_pos h2, if_pos h3]
        rw [hre] at e ⊢
        have ed : (runM false x (L, 0) (pairsM was is_)).2 = 0 := Decidable.by_contra fun h => by rw [runM_bad h] at e; exact h e
        obtain ⟨L1, hd, hr1, hDn, hDm, hDl, hDz⟩ := drops_inv h1 ed
        rw [hd] at e ⊢
        obtain ⟨L2, hp, hr2, hPn, hPm, hPz⟩ := puts_inv hr1 e
        rw [hp]
        refine ⟨hr2, ?_⟩
        show retM L2 x is_ was = _
        unfold retM
        rw [if_pos hr2, if_pos (by rw [Bool.and_comm]; exact h2), if_pos h3]
        have e1 := drops_do hr2 hPn (fun i hi => ⟨(hPm i hi).1, (hPz _).2 (.inr ⟨i, hi, rfl⟩)⟩)
        obtain ⟨L3, hq, hr3, _, _, _, hQz⟩ := drops_inv hr2 e1
        have h31 : L3 = L1 := right_eq hr3 hr1 fun z => by
          rw [hQz, hPz]
          constructor
          · rintro ⟨ha | ⟨i, hi, rfl⟩, hb⟩
            · exact ha
            · exact absurd rfl (hb i hi)
          · intro ha
            exact ⟨.inl ha, fun i hi e => (hPm i hi).2 (e ▸ ha)⟩
        rw [hq, h31]
        have hmx := (right_may h1).2
        have e2 := puts_do hr1 hDn (fun i hi => ⟨(hDm i hi).1, fun h => ((hDz _).1 h).2 i hi rfl⟩) (by omega)
        obtain ⟨L4, hv, hr4, _, _, hVz⟩ := puts_inv hr1 e2
        rw [hv, right_eq hr4 h1 fun z => ?_]
        rw [hVz, hDz]
        constructor
        · rintro (ha | ⟨i, hi, rfl⟩)
          · exact ha.1
          · exact (hDm i hi).2
        · intro ha
          by_cases hc : ∃ i ∈ pairsM was is_, z = (x, i)
          · exact .inr hc
          · exact .inl ⟨ha, fun i hi e => hc ⟨i, hi, e⟩⟩
      · unfold retM at e; rw [if_pos h1, if_pos h2, if_neg h3] at e; exact absurd e (by decide)
    · unfold retM at e; rw [if_pos h1, if_neg h2] at e; exact absurd e (by decide)
  · unfold retM at e; rw [if_neg h1] at e; exact absurd e (by decide)
/-- Rows of ids, one behind the other. -/
theorem cell_id {xs : List Int} {k : Nat} {x : Int} (h : xs[k]? = some x) : (encL cId xs)[k * 1]? = some (.int .u64 x) := by
  have := encL_get (d := dId) xs k 0 x h (by decide)
  rwa [Nat.add_zero] at this
attribute [local irreducible] Hold J JL JD JX JXat OpR OpG Ret RetV Is Blk Row MapC
set_option maxRecDepth 100000
set_option maxHeartbeats 1000000
theorem bad_step {w w' : World} {c : Int} (hE : Ext w w') : Fresh w w' [TabQ none ([] : List QR).length 0 (([] : List QR).map rawQ), OwnQ []] := ((((St.init w).ext hE).nilQ).nilRow 81 2).out (List.Sublist.refl _)
theorem rput_u (w : World) (a : Option Addr) (n c : Nat) (l : List RH) (h : HH) (hl : Sl dRef All w a n c l) (ho : okH h) (hn : n ≤ 100000) (hb : tot l ≤ 100000) :
    Ret Try.prog 50 #[.slice a n c, .agg (cH h).toArray] w fun u w' => ∃ (qs : List QR) (a' : Option Addr) (c' : Nat), (qs.map meanQ = (stepM true (l, 0) h).1 ∧ ∀ q ∈ qs, okQ q) ∧ u = .tuple #[.slice a' qs.length c', .int .i64 (stepM true (l, 0) h).2] ∧ Fresh w w' [TabQ a' qs.length c' (qs.map rawQ), OwnQ qs] := by
  by_cases hp : putC l h = 0
  · rw [stepP_of hp]
    exact rput_ok w a n c l h hl ho hn hb hp
  · refine (rput_bad w a n c l h hl ho hn hb hp).mono ?_
    rintro _ w' ⟨rfl, hE⟩
    have he : stepM true (l, 0) h = ([], putC l h) := by unfold stepM; rw [if_pos rfl, if_pos rfl]; exact if_neg hp
    rw [he]
    exact ⟨[], none, 0, ⟨rfl, fun q hq => by cases hq⟩, rfl, bad_step (c := 0) hE⟩
theorem rdrop_u (w : World) (a : Option Addr) (n c : Nat) (l : List RH) (h : HH) (hl : Sl dRef All w a n c l) (ho : okH h) (hn : n ≤ 100000) (hb : tot l ≤ 100000) :
    Ret Try.prog 52 #[.slice a n c, .agg (cH h).toArray] w fun u w' => ∃ (qs : List QR) (a' : Option Addr) (c' : Nat), (qs.map meanQ = (stepM false (l, 0) h).1 ∧ ∀ q ∈ qs, okQ q) ∧ u = .tuple #[.slice a' qs.length c', .int .i64 (stepM false (l, 0) h).2] ∧ Fresh w w' [TabQ a' qs.length c' (qs.map rawQ), OwnQ qs] := by
  by_cases hp : dropC l h = 0
  · rw [stepD_of hp]
    exact rdrop_ok w a n c l h hl ho hn hb hp
  · refine (rdrop_bad w a n c l h hl ho hn hb hp).mono ?_
    rintro _ w' ⟨rfl, hE⟩
    have he : stepM false (l, 0) h = ([], dropC l h) := by unfold stepM; rw [if_pos rfl, if_neg (by decide)]; exact if_neg hp
    rw [he]
    exact ⟨[], none, 0, ⟨rfl, fun q hq => by cases hq⟩, rfl, bad_step (c := 0) hE⟩
abbrev RowU (a : Option Addr) (n c : Nat) (xs : List Int) : HP := Row a n c 41 1 (encL cId xs)
theorem rretype_r (w : World) (a a1 a2 : Option Addr) (n c n1 c1 n2 c2 : Nat) (l : List RH) (x : Int) (was is_ : List Int) (hl : Sl dRef All w a n c l) (h1 : Sl dId All w a1 n1 c1 was) (h2 : Sl dId All w a2 n2 c2 is_) (hx : inK .i64 x) (hn : n ≤ 100000) (hb : tot l ≤ 100000) (hn1 : n1 ≤ 1000) (hn2 : n2 ≤ 1000) :
    Ret Try.prog 54 #[.slice a n c, .int .i64 x, .slice a1 n1 c1, .slice a2 n2 c2] w fun u w' => ∃ (qs : List QR) (a' : Option Addr) (c' : Nat), (qs.map meanQ = (retM l x was is_).1 ∧ ∀ q ∈ qs, okQ q) ∧ u = .tuple #[.slice a' qs.length c', .int .i64 (retM l x was is_).2] ∧ Fresh w w' [TabQ a' qs.length c' (qs.map rawQ), OwnQ qs] := by
  refine Ret_of (l := [_, _, _, _]) Try.func54 rfl Try.ntmps54 (by simp) ?_
  have hs := St.init w
  have hl1 := h1.len
  have hl2 := h2.len
  have hw1 : ∀ i ∈ was, okId i := fun i hi => by
    obtain ⟨k, hk⟩ := List.mem_iff_getElem?.1 hi
    exact (h1.elF hk).1
  have hw2 : ∀ i ∈ is_, okId i := fun i hi => by
    obtain ⟨k, hk⟩ := List.mem_iff_getElem?.1 hi
    exact (h2.elF hk).1
  by_cases hr : rightH l = true
  rotate_left
  · have hr : rightH l = false := by simpa using hr
    have e : retM l x was is_ = ([], 250) := by unfold retM; rw [if_neg (by rw [hr]; decide)]
    rw [e]
    repeat' (first
      | ((apply al_call 40; refine JL_o (by exact OpR_callF en40 rfl (rcheck_r _ a n c l (hl.st hs) (by omega) (by omega))) rfl rfl ?_; rintro _ _ ⟨rfl, hE⟩; rw [err_bad hr]; have hs := hs.ext hE; (try simp only [List.cons_append, List.nil_append] at hs)))
      | (apply JL_nil)
      | ((apply JL_pure); (first
      | (apply as_move; exact OpR_move rfl is_rfl)
      | (apply as_assign; exact OpR_assign rfl is_rfl)
      | (apply as_binOp; exact OpR_ibin rfl rfl rfl is_rfl)); first | (exact rfl; exact rfl) | exact rfl)
      | (apply J_seq)
      | (apply J_region)
      | (apply J_block)
      | (apply J_scope)
      | (apply aj_cond; refine J_dec_t rfl ob ?_))
    refine J_leave Try.func54 rfl (.tmp rfl (.tmp rfl .nil)) ⟨[], none, 0, ⟨rfl, fun q hq => by cases hq⟩, rfl, bad_step (c := 0) hs.frm.ext⟩
  by_cases ht : (typeB was && typeB is_) = true
  rotate_left
  · have e : retM l x was is_ = ([], 130) := by unfold retM; rw [if_pos hr, if_neg ht]
    rw [e]
    cases t1 : typeB was with
    | false =>
      repeat' (first
        | ((apply al_call 40; refine JL_o (by exact OpR_callF en40 rfl (rcheck_r _ a n c l (hl.st hs) (by omega) (by omega))) rfl rfl ?_; rintro _ _ ⟨rfl, hE⟩; rw [err_ok hr]; have hs := hs.ext hE; (try simp only [List.cons_append, List.nil_append] at hs)))
        | ((apply al_call 33; refine JL_o (by exact OpR_callF en33 rfl (tcheck_r _ a1 n1 c1 was (h1.st hs))) rfl rfl ?_; rintro _ _ ⟨rfl, hE⟩; rw [t1]; have hs := hs.ext hE; (try simp only [List.cons_append, List.nil_append] at hs)))
        | (apply JL_nil)
        | ((apply JL_pure); (first
      | (apply as_move; exact OpR_move rfl is_rfl)
      | (apply as_assign; exact OpR_assign rfl is_rfl)
      | (apply as_binOp; exact OpR_ibin rfl rfl rfl is_rfl)
      | (apply as_pick; exact OpR_pick_t rfl gb rfl is_rfl)); first | (exact rfl; exact rfl) | exact rfl)
        | (apply J_seq)
        | (apply J_region)
        | (apply J_block)
        | (apply J_scope)
        | (apply al_guard; (refine JL_no rfl gb rfl ?_))
        | (apply aj_cond; first | refine J_dec_f rfl ob ?_ | refine J_cond_t rfl gb ?_))
      refine J_leave Try.func54 rfl (.tmp rfl (.tmp rfl .nil)) ⟨[], none, 0, ⟨rfl, fun q hq => by cases hq⟩, rfl, bad_step (c := 0) hs.frm.ext⟩
    | true =>
      have t2 : typeB is_ = false := by rw [t1] at ht; simpa using ht
      repeat' (first
        | ((apply al_call 40; refine JL_o (by exact OpR_callF en40 rfl (rcheck_r _ a n c l (hl.st hs) (by omega) (by omega))) rfl rfl ?_; rintro _ _ ⟨rfl, hE⟩; rw [err_ok hr]; have hs := hs.ext hE; (try simp only [List.cons_append, List.nil_append] at hs)))
        | ((apply al_call 33; refine JL_o (by exact OpR_callF en33 rfl (tcheck_r _ a1 n1 c1 was (h1.st hs))) rfl rfl ?_; rintro _ _ ⟨rfl, hE⟩; rw [t1]; have hs := hs.ext hE; (try simp only [List.cons_append, List.nil_append] at hs)))
        | ((apply al_callg 33; refine JL_o_on rfl gb (by exact OpR_callF en33 rfl (tcheck_r _ a2 n2 c2 is_ (h2.st hs))) rfl rfl ?_; rintro _ _ ⟨rfl, hE⟩; rw [t2]; have hs := hs.ext hE; (try simp only [List.cons_append, List.nil_append] at hs)))
        | (apply JL_nil)
        | ((first | (apply JL_pure) | (apply JL_pure_on; exact rfl; exact gb)); (first
      | (apply as_move; exact OpR_move rfl is_rfl)
      | (apply as_assign; exact OpR_assign rfl is_rfl)
      | (apply as_binOp; exact OpR_ibin rfl rfl rfl is_rfl)
      | (apply as_pick; exact OpR_pick_f rfl gb rfl is_rfl)); first | (exact rfl; exact rfl) | exact rfl)
        | (apply J_seq)
        | (apply J_region)
        | (apply J_block)
        | (apply J_scope)
        | (apply aj_cond; first | refine J_dec_f rfl ob ?_ | refine J_cond_t rfl gb ?_))
      refine J_leave Try.func54 rfl (.tmp rfl (.tmp rfl .nil)) ⟨[], none, 0, ⟨rfl, fun q hq => by cases hq⟩, rfl, bad_step (c := 0) hs.frm.ext⟩
  have t1 : typeB was = true := (Bool.and_eq_true_iff.1 ht).1
  have t2 : typeB is_ = true := (Bool.and_eq_true_iff.1 ht).2
  by_cases hxr : 1 ≤ x ∧ x ≤ 1048578
  rotate_left
  · have e : retM l x was is_ = ([], 2) := by unfold retM; rw [if_pos hr, if_pos ht, if_neg hxr]
    rw [e]
    have hx2 : x < 1 ∨ (¬ x < 1 ∧ 1048578 < x) := by omega
    rcases hx2 with hx2 | ⟨hx2, hx3⟩
    all_goals
      repeat' (first
        | ((apply al_call 40; refine JL_o (by exact OpR_callF en40 rfl (rcheck_r _ a n c l (hl.st hs) (by omega) (by omega))) rfl rfl ?_; rintro _ _ ⟨rfl, hE⟩; rw [err_ok hr]; have hs := hs.ext hE; (try simp only [List.cons_append, List.nil_append] at hs)))
        | ((apply al_call 33; refine JL_o (by exact OpR_callF en33 rfl (tcheck_r _ a1 n1 c1 was (h1.st hs))) rfl rfl ?_; rintro _ _ ⟨rfl, hE⟩; rw [t1]; have hs := hs.ext hE; (try simp only [List.cons_append, List.nil_append] at hs)))
        | ((apply al_callg 33; refine JL_o_on rfl gb (by exact OpR_callF en33 rfl (tcheck_r _ a2 n2 c2 is_ (h2.st hs))) rfl rfl ?_; rintro _ _ ⟨rfl, hE⟩; rw [t2]; have hs := hs.ext hE; (try simp only [List.cons_append, List.nil_append] at hs)))
        | (apply JL_nil)
        | ((first | (apply JL_pure) | (apply JL_pure_on; exact rfl; exact gb)); (first
      | (apply as_move; exact OpR_move rfl is_rfl)
      | (apply as_assign; exact OpR_assign rfl is_rfl)
      | (apply as_binOp; exact OpR_ibin rfl rfl rfl is_rfl)
      | (apply as_pick; first | exact OpR_pick_t rfl gb rfl is_rfl | exact OpR_pick_f rfl gb rfl is_rfl)); first | (exact rfl; exact rfl) | exact rfl)
        | (apply J_seq)
        | (apply J_region)
        | (apply J_block)
        | (apply J_scope)
        | (apply al_guard; (refine JL_no rfl gb rfl ?_))
        | (apply aj_cond; first | refine J_dec_t rfl ob ?_ | refine J_dec_f rfl ob ?_ | refine J_cond_t rfl gb ?_ | refine J_cond_f rfl gb ?_))
      refine J_leave Try.func54 rfl (.tmp rfl (.tmp rfl .nil)) ⟨[], none, 0, ⟨rfl, fun q hq => by cases hq⟩, rfl, bad_step (c := 0) hs.frm.ext⟩
  obtain ⟨hx1, hx3⟩ := hxr
  obtain ⟨D, hD⟩ : ∃ D, D = pairsM was is_ := ⟨_, rfl⟩
  obtain ⟨P, hP⟩ : ∃ P, P = pairsM is_ was := ⟨_, rfl⟩
  have hDo : ∀ i ∈ D, okId i := fun i hi => hw1 i (pairs_mem.1 (hD ▸ hi)).1
  have hPo : ∀ i ∈ P, okId i := fun i hi => hw2 i (pairs_mem.1 (hP ▸ hi)).1
  have hDl : D.length ≤ 1000 := by rw [hD]; exact Nat.le_trans (pairs_len _ _) (by omega)
  have hPl : P.length ≤ 1000 := by rw [hP]; exact Nat.le_trans (pairs_len _ _) (by omega)
  have e : retM l x was is_ = runM true x (runM false x (l, 0) D) P := by unfold retM; rw [if_pos hr, if_pos ht, if_pos ⟨hx1, hx3⟩, hD, hP]
  rw [e]
  clear e
  obtain ⟨S1, hS1⟩ : ∃ s, s = runM false x (l, 0) D := ⟨_, rfl⟩
  obtain ⟨S2, hS2⟩ : ∃ s, s = runM true x S1 P := ⟨_, rfl⟩
  rw [← hS1, ← hS2]
  have hsz : ∀ {m : List RH}, rightH m = true → m.length ≤ 40000 ∧ tot m ≤ 40000 := fun {m} hm => by
    obtain ⟨i1, i2⟩ := tot_le (right_ok.1 hm)
    have := (right_may hm).2
    omega
  repeat' (first
    | ((apply al_call 40; refine JL_o (by exact OpR_callF en40 rfl (rcheck_r _ a n c l (hl.st hs) (by omega) (by omega))) rfl rfl ?_; rintro _ _ ⟨rfl, hE⟩; rw [err_ok hr]; have hs := hs.ext hE; (try simp only [List.cons_append, List.nil_append] at hs)))
    | ((apply al_call 33; refine JL_o (by exact OpR_callF en33 rfl (tcheck_r _ a1 n1 c1 was (h1.st hs))) rfl rfl ?_; rintro _ _ ⟨rfl, hE⟩; rw [t1]; have hs := hs.ext hE; (try simp only [List.cons_append, List.nil_append] at hs)))
    | ((apply al_callg 33; refine JL_o_on rfl gb (by exact OpR_callF en33 rfl (tcheck_r _ a2 n2 c2 is_ (h2.st hs))) rfl rfl ?_; rintro _ _ ⟨rfl, hE⟩; rw [t2]; have hs := hs.ext hE; (try simp only [List.cons_append, List.nil_append] at hs)))
    | ((apply al_call 104; refine JL_o (by exact OpR_callF en104 rfl (rown_r _ a n c l (hl.st hs) (by omega) (by omega))) rfl rfl ?_; rintro _ _ ⟨qs0, a10, ⟨hqm0, hqo0⟩, rfl, hf⟩; have hs := hs.fresh hf; (try simp only [List.cons_append, List.nil_append] at hs)))
    | ((apply al_call 105; refine JL_o (by exact OpR_callF en105 rfl (rpairs_r _ a1 a2 n1 c1 n2 c2 was is_ (h1.st hs) (h2.st hs) (by omega))) rfl rfl ?_; rintro _ _ ⟨aD, cD, rfl, hf⟩; rw [← hD] at hf ⊢; have hs := hs.fresh hf; (try simp only [List.cons_append, List.nil_append] at hs)))
    | ((apply al_call 105; refine JL_o (by exact OpR_callF en105 rfl (rpairs_r _ a2 a1 n2 c2 n1 c1 is_ was (h2.st hs) (h1.st hs) (by omega))) rfl rfl ?_; rintro _ _ ⟨aP, cP, rfl, hf⟩; rw [← hP] at hf ⊢; have hs := hs.fresh hf; (try simp only [List.cons_append, List.nil_append] at hs)))
    | (apply JL_nil)
    | ((first | (apply JL_pure) | (apply JL_pure_on; exact rfl; exact gb)); (first
      | (apply as_move; exact OpR_move rfl is_rfl)
      | (apply as_assign; exact OpR_assign rfl is_rfl)
      | (apply as_binOp; exact OpR_ibin rfl rfl rfl is_rfl)
      | (apply as_pick; exact OpR_pick_f rfl gb rfl is_rfl)
      | (apply as_build; exact OpR_build_arr rfl (by (simp only [bld, placesOf, splice, Value.cells, List.take_succ_cons, List.take_zero, List.drop_succ_cons, List.drop_zero, List.cons_append, List.nil_append, List.length_cons, List.length_nil, List.getElem?_cons_zero, List.getElem?_cons_succ, Option.map_some, List.append_nil, Nat.reduceAdd, Nat.reduceMul, Nat.zero_add, Nat.reduceLeDiff, and_self, if_true, List.toList_toArray, Nat.le_refl, Nat.zero_mul, Nat.one_mul]; first | done | rfl)) is_rfl)); first | (exact rfl; exact rfl) | exact rfl)
    | (apply J_seq)
    | (apply J_region)
    | (apply J_block)
    | (apply J_inBlock)
    | (apply J_skip)
    | (apply J_label)
    | (apply J_scope)
    | (apply aj_cond; first | refine J_dec_f rfl ob ?_ | refine J_cond_f rfl gb ?_))
  have hq0l : n = qs0.length := by have := congrArg List.length hqm0; rw [List.length_map] at this; rw [this]; exact hl.len.symm
  rw [hq0l] at hs
  refine J_loopK (α := Nat × List QR × Option Addr × Nat) [(1, _), (45, _)] (fun g => [(10, .slice g.2.2.1 g.2.1.length g.2.2.2), (11, .int .i64 0), (46, .int .i64 g.1)]) (fun g w' => St w NoF w' [TabQ g.2.2.1 g.2.1.length g.2.2.2 (g.2.1.map rawQ), OwnQ g.2.1, RowU aD D.length cD D, RowU aP P.length cP P] ∧ (g.1 = 0 → (g.2.1.map meanQ, 0) = (l, (0 : Int))) ∧ (g.1 = 1 → S1 = (g.2.1.map meanQ, 0)) ∧ (g.1 = 2 → S2 = (g.2.1.map meanQ, 0)) ∧ (∀ q ∈ g.2.1, okQ q) ∧ rightH (g.2.1.map meanQ) = true ∧ g.1 ≤ 2) (fun g => 2 - g.1) (0, qs0, a10, qs0.length) ⟨hs.sel [2, 3, 1, 0] (by decide), fun _ => by rw [hqm0], (fun e => by cases e), (fun e => by cases e), hqo0, by rw [hqm0]; exact hr, Nat.zero_le _⟩ (by rw [hq0l]; repeat' (first | exact trivial | exact rfl | apply And.intro)) ?_
  rintro ⟨i, qs, a', c'⟩ w2 ⟨hs1, hi0, hi1, hi2, hqo, hri, hile⟩ ih
  dsimp only at hs1 hi0 hi1 hi2 hqo hri hile ih ⊢
  have hs : St w NoF w2 [_, _, _, _] := hs1
  have hcase : i = 0 ∨ i = 1 ∨ i = 2 := by omega
  rcases hcase with rfl | rfl | rfl
  · have hi0 := hi0 rfl
    repeat' (first
      | (apply JL_nil)
      | ((apply JL_pure); (first
      | (apply as_move; exact OpR_move rfl is_rfl)
      | (apply as_assign; exact OpR_assign rfl is_rfl)
      | (apply as_binOp; exact OpR_ibin rfl rfl rfl is_rfl)
      | (apply as_b_len; exact OpR_len rfl is_rfl)
      | (apply as_index; exact OpR_index rfl rfl (by omega) (by omega) rfl is_rfl)
      | (apply as_build; exact OpR_build_arr rfl (by (simp only [bld, placesOf, splice, Value.cells, List.take_succ_cons, List.take_zero, List.drop_succ_cons, List.drop_zero, List.cons_append, List.nil_append, List.length_cons, List.length_nil, List.getElem?_cons_zero, List.getElem?_cons_succ, Option.map_some, List.append_nil, Nat.reduceAdd, Nat.reduceMul, Nat.zero_add, Nat.reduceLeDiff, and_self, if_true, List.toList_toArray, Nat.le_refl, Nat.zero_mul, Nat.one_mul]; first | done | rfl)) is_rfl)); first | (exact rfl; exact rfl) | exact rfl)
      | (apply J_seq)
      | (apply J_region)
      | (apply J_block)
      | (apply J_skip)
      | (apply aj_cond; refine J_dec_t rfl ob ?_))
    refine J_loopK (α := Nat × List QR × Option Addr × Nat) [(1, _), (14, _), (45, _), (46, _), (53, _), (54, _)] (fun g => [(10, .slice g.2.2.1 g.2.1.length g.2.2.2), (11, .int .i64 0), (55, .int .i64 g.1)]) (fun g w' => St w NoF w' [TabQ g.2.2.1 g.2.1.length g.2.2.2 (g.2.1.map rawQ), OwnQ g.2.1, RowU aD D.length cD D, RowU aP P.length cP P] ∧ runM false x (l, 0) (D.take g.1) = (g.2.1.map meanQ, 0) ∧ (∀ q ∈ g.2.1, okQ q) ∧ rightH (g.2.1.map meanQ) = true ∧ g.1 ≤ D.length) (fun g => D.length - g.1) (0, qs, a', c') ⟨hs, by rw [hi0]; rfl, hqo, hri, Nat.zero_le _⟩ (by repeat' (first | exact trivial | exact rfl | apply And.intro)) ?_
    rintro ⟨k, ps, a3, c3⟩ w3 ⟨hs1, hrun, hpo, hrp, hk⟩ ih2
    dsimp only at hs1 hrun hpo hrp hk ih2 ⊢
    have hs : St w NoF w3 [_, _, _, _] := hs1
    by_cases hlt : k < D.length
    · obtain ⟨b, o, rfl⟩ := (hs.row aD D.length cD).some (by omega)
      have hs : St w NoF w3 [TabQ a3 ps.length c3 (ps.map rawQ), OwnQ ps, RowU (some ⟨b, o, none⟩) D.length cD D, RowU aP P.length cP P] := hs1
      have hv : D[k]? = some (D[k]'hlt) := List.getElem?_eq_getElem hlt
      obtain ⟨y, hy⟩ : ∃ y, y = D[k]'hlt := ⟨_, rfl⟩
      rw [← hy] at hv
      have hyo : okH (x, y) := ⟨hx, hDo y (List.mem_of_getElem? hv)⟩
      obtain ⟨hz1, hz2⟩ := hsz hrp
      rw [List.length_map] at hz1
      have hsu : runM false x (l, 0) (D.take (k + 1)) = stepM false (ps.map meanQ, 0) (x, y) := by rw [runM_succ hv, hrun]
      obtain ⟨z, hz⟩ : ∃ z, z = stepM false (ps.map meanQ, 0) (x, y) := ⟨_, rfl⟩
      by_cases h0 : z.2 = 0
      · repeat' (first
          | ((apply al_none (t := 65); refine JL_o (OpR_callV rfl rfl (Ret.value (cap := #[]) en52 (rdrop_u _ a3 ps.length c3 (ps.map meanQ) (x, y) (slQ hs (by repeat (first | exact List.Mem.head _ | apply List.Mem.tail)) (by repeat (first | exact List.Mem.head _ | apply List.Mem.tail)) hpo) hyo (by omega) (by omega)))) rfl rfl ?_; rintro _ _ ⟨q4, a4, c4, ⟨hm4, ho4⟩, rfl, hf⟩; rw [← hz] at hm4 ⊢; rw [h0]; have hs := hs.fresh hf; (try simp only [List.cons_append, List.nil_append] at hs)))
          | (apply JL_nil)
          | ((apply JL_pure); (first
      | (apply as_load; first | exact OpR_load1N (off := k * 1) (n := D.length) (c := cD) hs rfl (cell_id hv) is_rfl | exact OpR_load' hs rfl rfl is_rfl | exact OpR_load_agg' hs rfl is_rfl)
      | (apply as_move; exact OpR_move rfl is_rfl)
      | (apply as_assign; exact OpR_assign rfl is_rfl)
      | (apply as_add; exact OpR_addn rfl rfl (by omega) (by first | (simp only [Int.reduceAdd]; exact rfl) | exact rfl) is_rfl)
      | (apply as_binOp; exact OpR_ibin rfl rfl rfl is_rfl)
      | (apply as_extract; exact OpR_extract rfl rfl is_rfl)
      | (apply as_indexAddr; exact OpR_indexAddr rfl rfl (by omega) (by omega) is_rfl)
      | (apply as_build; exact OpR_build rfl (by (simp only [bld, placesOf, splice, Value.cells, List.take_succ_cons, List.take_zero, List.drop_succ_cons, List.drop_zero, List.cons_append, List.nil_append, List.length_cons, List.length_nil, List.getElem?_cons_zero, List.getElem?_cons_succ, Option.map_some, List.append_nil, Nat.reduceAdd, Nat.reduceMul, Nat.zero_add, Nat.reduceLeDiff, and_self, if_true, List.toList_toArray, Nat.le_refl, Nat.zero_mul, Nat.one_mul]; first | done | rfl)) is_rfl)); first | (exact rfl; exact rfl) | exact rfl)
          | (apply J_seq)
          | (apply J_region)
          | (apply J_block)
          | (apply J_inBlock)
          | (apply J_skip)
          | (apply aj_cond; first | refine J_dec_t rfl ob ?_ | refine J_dec_f rfl ob ?_))
        refine ih2 (k + 1, q4, a4, c4) _ _ ⟨hs.sel [0, 1, 4, 5] (by decide), ?_, ho4, ?_, hlt⟩ (by show D.length - (k + 1) < D.length - k; omega) (by repeat' (first | exact trivial | exact rfl | apply And.intro))
        · show _ = (q4.map meanQ, 0)
          rw [hsu, ← hz, hm4, ← h0]
        · show rightH (q4.map meanQ) = true
          rw [hm4, hz]
          exact step_right (by rw [← hz]; exact h0)
      · repeat' (first
          | ((apply al_none (t := 65); refine JL_o (OpR_callV rfl rfl (Ret.value (cap := #[]) en52 (rdrop_u _ a3 ps.length c3 (ps.map meanQ) (x, y) (slQ hs (by repeat (first | exact List.Mem.head _ | apply List.Mem.tail)) (by repeat (first | exact List.Mem.head _ | apply List.Mem.tail)) hpo) hyo (by omega) (by omega)))) rfl rfl ?_; rintro _ _ ⟨q4, a4, c4, ⟨hm4, ho4⟩, rfl, hf⟩; rw [← hz] at hm4 ⊢; have hs := hs.fresh hf; (try simp only [List.cons_append, List.nil_append] at hs)))
          | (apply JL_nil)
          | ((apply JL_pure); (first
      | (apply as_load; first | exact OpR_load1N (off := k * 1) (n := D.length) (c := cD) hs rfl (cell_id hv) is_rfl | exact OpR_load' hs rfl rfl is_rfl | exact OpR_load_agg' hs rfl is_rfl)
      | (apply as_move; exact OpR_move rfl is_rfl)
      | (apply as_assign; exact OpR_assign rfl is_rfl)
      | (apply as_binOp; exact OpR_ibin rfl rfl rfl is_rfl)
      | (apply as_extract; exact OpR_extract rfl rfl is_rfl)
      | (apply as_indexAddr; exact OpR_indexAddr rfl rfl (by omega) (by omega) is_rfl)
      | (apply as_build; exact OpR_build rfl (by (simp only [bld, placesOf, splice, Value.cells, List.take_succ_cons, List.take_zero, List.drop_succ_cons, List.drop_zero, List.cons_append, List.nil_append, List.length_cons, List.length_nil, List.getElem?_cons_zero, List.getElem?_cons_succ, Option.map_some, List.append_nil, Nat.reduceAdd, Nat.reduceMul, Nat.zero_add, Nat.reduceLeDiff, and_self, if_true, List.toList_toArray, Nat.le_refl, Nat.zero_mul, Nat.one_mul]; first | done | rfl)) is_rfl)); first | (exact rfl; exact rfl) | exact rfl)
          | (apply J_seq)
          | (apply J_region)
          | (apply J_block)
          | (apply aj_exit; refine J_exit rfl ?_)
          | (apply J_skip)
          | (apply aj_cond; refine J_dec_t rfl ob ?_))
        have hstop := runM_stop (op := false) (x := x) (s := (l, 0)) (xs := D) (k + 1) (by rw [hsu, ← hz]; exact h0)
        rw [hsu, ← hz] at hstop
        have hfin : S2 = z := by rw [hS2, hS1, hstop, runM_bad h0]
        rw [hfin]
        refine J_leave Try.func54 rfl (.tmp rfl (.tmp rfl .nil)) ⟨q4, a4, c4, ⟨hm4, ho4⟩, rfl, hs.out (.cons_cons _ (.cons_cons _ (List.nil_sublist _)))⟩
    · rw [List.take_of_length_le (by omega)] at hrun
      repeat' (first
        | (apply JL_nil)
        | ((apply JL_pure); (first
      | (apply as_move; exact OpR_move rfl is_rfl)
      | (apply as_add; exact OpR_addn rfl rfl (by omega) (by first | (simp only [Int.reduceAdd]; exact rfl) | exact rfl) is_rfl)
      | (apply as_binOp; exact OpR_ibin rfl rfl rfl is_rfl)); first | (exact rfl; exact rfl) | exact rfl)
        | (apply J_seq)
        | (apply J_region)
        | (apply J_inBlock)
        | (apply aj_exit; refine J_exit rfl ?_)
        | (apply aj_cond; refine J_dec_f rfl ob ?_))
      refine ih (1, ps, a3, c3) _ _ ⟨hs, (fun e => by cases e), fun _ => hS1.trans hrun, (fun e => by cases e), hpo, hrp, by show 1 ≤ 2; decide⟩ (by show 2 - 1 < 2 - 0; decide) (by repeat' (first | exact trivial | exact rfl | apply And.intro))
  · have hi0 := hi1 rfl
    repeat' (first
      | (apply JL_nil)
      | ((apply JL_pure); (first
      | (apply as_move; exact OpR_move rfl is_rfl)
      | (apply as_assign; exact OpR_assign rfl is_rfl)
      | (apply as_binOp; exact OpR_ibin rfl rfl rfl is_rfl)
      | (apply as_b_len; exact OpR_len rfl is_rfl)
      | (apply as_index; exact OpR_index rfl rfl (by omega) (by omega) rfl is_rfl)
      | (apply as_build; exact OpR_build_arr rfl (by (simp only [bld, placesOf, splice, Value.cells, List.take_succ_cons, List.take_zero, List.drop_succ_cons, List.drop_zero, List.cons_append, List.nil_append, List.length_cons, List.length_nil, List.getElem?_cons_zero, List.getElem?_cons_succ, Option.map_some, List.append_nil, Nat.reduceAdd, Nat.reduceMul, Nat.zero_add, Nat.reduceLeDiff, and_self, if_true, List.toList_toArray, Nat.le_refl, Nat.zero_mul, Nat.one_mul]; first | done | rfl)) is_rfl)); first | (exact rfl; exact rfl) | exact rfl)
      | (apply J_seq)
      | (apply J_region)
      | (apply J_block)
      | (apply J_skip)
      | (apply aj_cond; refine J_dec_t rfl ob ?_))
    refine J_loopK (α := Nat × List QR × Option Addr × Nat) [(1, _), (14, _), (45, _), (46, _), (53, _), (54, _)] (fun g => [(10, .slice g.2.2.1 g.2.1.length g.2.2.2), (11, .int .i64 0), (55, .int .i64 g.1)]) (fun g w' => St w NoF w' [TabQ g.2.2.1 g.2.1.length g.2.2.2 (g.2.1.map rawQ), OwnQ g.2.1, RowU aD D.length cD D, RowU aP P.length cP P] ∧ runM true x S1 (P.take g.1) = (g.2.1.map meanQ, 0) ∧ (∀ q ∈ g.2.1, okQ q) ∧ rightH (g.2.1.map meanQ) = true ∧ g.1 ≤ P.length) (fun g => P.length - g.1) (0, qs, a', c') ⟨hs, by rw [← hi0]; rfl, hqo, hri, Nat.zero_le _⟩ (by repeat' (first | exact trivial | exact rfl | apply And.intro)) ?_
    rintro ⟨k, ps, a3, c3⟩ w3 ⟨hs1, hrun, hpo, hrp, hk⟩ ih2
    dsimp only at hs1 hrun hpo hrp hk ih2 ⊢
    have hs : St w NoF w3 [_, _, _, _] := hs1
    by_cases hlt : k < P.length
    · obtain ⟨b, o, rfl⟩ := (hs.row aP P.length cP).some (by omega)
      have hs : St w NoF w3 [TabQ a3 ps.length c3 (ps.map rawQ), OwnQ ps, RowU aD D.length cD D, RowU (some ⟨b, o, none⟩) P.length cP P] := hs1
      have hv : P[k]? = some (P[k]'hlt) := List.getElem?_eq_getElem hlt
      obtain ⟨y, hy⟩ : ∃ y, y = P[k]'hlt := ⟨_, rfl⟩
      rw [← hy] at hv
      have hyo : okH (x, y) := ⟨hx, hPo y (List.mem_of_getElem? hv)⟩
      obtain ⟨hz1, hz2⟩ := hsz hrp
      rw [List.length_map] at hz1
      have hsu : runM true x S1 (P.take (k + 1)) = stepM true (ps.map meanQ, 0) (x, y) := by rw [runM_succ hv, hrun]
      obtain ⟨z, hz⟩ : ∃ z, z = stepM true (ps.map meanQ, 0) (x, y) := ⟨_, rfl⟩
      by_cases h0 : z.2 = 0
      · repeat' (first
          | ((apply al_none (t := 65); refine JL_o (OpR_callV rfl rfl (Ret.value (cap := #[]) en50 (rput_u _ a3 ps.length c3 (ps.map meanQ) (x, y) (slQ hs (by repeat (first | exact List.Mem.head _ | apply List.Mem.tail)) (by repeat (first | exact List.Mem.head _ | apply List.Mem.tail)) hpo) hyo (by omega) (by omega)))) rfl rfl ?_; rintro _ _ ⟨q4, a4, c4, ⟨hm4, ho4⟩, rfl, hf⟩; rw [← hz] at hm4 ⊢; rw [h0]; have hs := hs.fresh hf; (try simp only [List.cons_append, List.nil_append] at hs)))
          | (apply JL_nil)
          | ((apply JL_pure); (first
      | (apply as_load; first | exact OpR_load1N (off := k * 1) (n := P.length) (c := cP) hs rfl (cell_id hv) is_rfl | exact OpR_load' hs rfl rfl is_rfl | exact OpR_load_agg' hs rfl is_rfl)
      | (apply as_move; exact OpR_move rfl is_rfl)
      | (apply as_assign; exact OpR_assign rfl is_rfl)
      | (apply as_add; exact OpR_addn rfl rfl (by omega) (by first | (simp only [Int.reduceAdd]; exact rfl) | exact rfl) is_rfl)
      | (apply as_binOp; exact OpR_ibin rfl rfl rfl is_rfl)
      | (apply as_extract; exact OpR_extract rfl rfl is_rfl)
      | (apply as_indexAddr; exact OpR_indexAddr rfl rfl (by omega) (by omega) is_rfl)
      | (apply as_build; exact OpR_build rfl (by (simp only [bld, placesOf, splice, Value.cells, List.take_succ_cons, List.take_zero, List.drop_succ_cons, List.drop_zero, List.cons_append, List.nil_append, List.length_cons, List.length_nil, List.getElem?_cons_zero, List.getElem?_cons_succ, Option.map_some, List.append_nil, Nat.reduceAdd, Nat.reduceMul, Nat.zero_add, Nat.reduceLeDiff, and_self, if_true, List.toList_toArray, Nat.le_refl, Nat.zero_mul, Nat.one_mul]; first | done | rfl)) is_rfl)); first | (exact rfl; exact rfl) | exact rfl)
          | (apply J_seq)
          | (apply J_region)
          | (apply J_block)
          | (apply J_inBlock)
          | (apply J_skip)
          | (apply aj_cond; first | refine J_dec_t rfl ob ?_ | refine J_dec_f rfl ob ?_))
        refine ih2 (k + 1, q4, a4, c4) _ _ ⟨hs.sel [0, 1, 4, 5] (by decide), ?_, ho4, ?_, hlt⟩ (by show P.length - (k + 1) < P.length - k; omega) (by repeat' (first | exact trivial | exact rfl | apply And.intro))
        · show _ = (q4.map meanQ, 0)
          rw [hsu, ← hz, hm4, ← h0]
        · show rightH (q4.map meanQ) = true
          rw [hm4, hz]
          exact step_right (by rw [← hz]; exact h0)
      · repeat' (first
          | ((apply al_none (t := 65); refine JL_o (OpR_callV rfl rfl (Ret.value (cap := #[]) en50 (rput_u _ a3 ps.length c3 (ps.map meanQ) (x, y) (slQ hs (by repeat (first | exact List.Mem.head _ | apply List.Mem.tail)) (by repeat (first | exact List.Mem.head _ | apply List.Mem.tail)) hpo) hyo (by omega) (by omega)))) rfl rfl ?_; rintro _ _ ⟨q4, a4, c4, ⟨hm4, ho4⟩, rfl, hf⟩; rw [← hz] at hm4 ⊢; have hs := hs.fresh hf; (try simp only [List.cons_append, List.nil_append] at hs)))
          | (apply JL_nil)
          | ((apply JL_pure); (first
      | (apply as_load; first | exact OpR_load1N (off := k * 1) (n := P.length) (c := cP) hs rfl (cell_id hv) is_rfl | exact OpR_load' hs rfl rfl is_rfl | exact OpR_load_agg' hs rfl is_rfl)
      | (apply as_move; exact OpR_move rfl is_rfl)
      | (apply as_assign; exact OpR_assign rfl is_rfl)
      | (apply as_binOp; exact OpR_ibin rfl rfl rfl is_rfl)
      | (apply as_extract; exact OpR_extract rfl rfl is_rfl)
      | (apply as_indexAddr; exact OpR_indexAddr rfl rfl (by omega) (by omega) is_rfl)
      | (apply as_build; exact OpR_build rfl (by (simp only [bld, placesOf, splice, Value.cells, List.take_succ_cons, List.take_zero, List.drop_succ_cons, List.drop_zero, List.cons_append, List.nil_append, List.length_cons, List.length_nil, List.getElem?_cons_zero, List.getElem?_cons_succ, Option.map_some, List.append_nil, Nat.reduceAdd, Nat.reduceMul, Nat.zero_add, Nat.reduceLeDiff, and_self, if_true, List.toList_toArray, Nat.le_refl, Nat.zero_mul, Nat.one_mul]; first | done | rfl)) is_rfl)); first | (exact rfl; exact rfl) | exact rfl)
          | (apply J_seq)
          | (apply J_region)
          | (apply J_block)
          | (apply aj_exit; refine J_exit rfl ?_)
          | (apply J_skip)
          | (apply aj_cond; refine J_dec_t rfl ob ?_))
        have hstop := runM_stop (op := true) (x := x) (s := S1) (xs := P) (k + 1) (by rw [hsu, ← hz]; exact h0)
        rw [hsu, ← hz] at hstop
        have hfin : S2 = z := by rw [hS2, hstop]
        rw [hfin]
        refine J_leave Try.func54 rfl (.tmp rfl (.tmp rfl .nil)) ⟨q4, a4, c4, ⟨hm4, ho4⟩, rfl, hs.out (.cons_cons _ (.cons_cons _ (List.nil_sublist _)))⟩
    · rw [List.take_of_length_le (by omega)] at hrun
      repeat' (first
        | (apply JL_nil)
        | ((apply JL_pure); (first
      | (apply as_move; exact OpR_move rfl is_rfl)
      | (apply as_add; exact OpR_addn rfl rfl (by omega) (by first | (simp only [Int.reduceAdd]; exact rfl) | exact rfl) is_rfl)
      | (apply as_binOp; exact OpR_ibin rfl rfl rfl is_rfl)); first | (exact rfl; exact rfl) | exact rfl)
        | (apply J_seq)
        | (apply J_region)
        | (apply J_inBlock)
        | (apply aj_exit; refine J_exit rfl ?_)
        | (apply aj_cond; refine J_dec_f rfl ob ?_))
      refine ih (2, ps, a3, c3) _ _ ⟨hs, (fun e => by cases e), (fun e => by cases e), fun _ => hS2.trans hrun, hpo, hrp, by show 2 ≤ 2; decide⟩ (by show 2 - 2 < 2 - 1; decide) (by repeat' (first | exact trivial | exact rfl | apply And.intro))
  · have hf := hi2 rfl
    repeat' (first
      | (apply JL_nil)
      | ((apply JL_pure); (first
      | (apply as_move; exact OpR_move rfl is_rfl)
      | (apply as_assign; exact OpR_assign rfl is_rfl)
      | (apply as_binOp; exact OpR_ibin rfl rfl rfl is_rfl)); first | (exact rfl; exact rfl) | exact rfl)
      | (apply J_seq)
      | (apply J_region)
      | (apply aj_exit; refine J_exit rfl ?_)
      | (apply aj_cond; refine J_dec_f rfl ob ?_))
    rw [hf]
    refine J_leave Try.func54 rfl (.tmp rfl (.tmp rfl .nil)) ⟨qs, a', c', ⟨rfl, hqo⟩, rfl, hs.out (.cons_cons _ (.cons_cons _ (List.nil_sublist _)))⟩
end Go.Eng
/- Referrers: ReferBack. -/
namespace Go.Eng
open Go.Proofs
set_option linter.unusedSimpArgs false
set_option linter.unusedVariables false
theorem slU {w0 w : World} {F : Nat → Prop} {L : List HP} {a : Option Addr} {n c : Nat} {xs : List Int} (hs : St w0 F w L) (hm : RowU a n c xs ∈ L) (hok : ∀ x ∈ xs, okId x) : Sl dId All w a n c xs :=
  (RowV.slF (d := dId) (hs.all _ hm) (by decide) hok).weak (fun _ _ => trivial)
attribute [local irreducible] Hold J JL JD JX JXat OpR OpG Ret RetV Is Blk Row MapC
set_option maxRecDepth 100000
set_option maxHeartbeats 1000000
theorem referBack_w (w : World) (a : Option Addr) (n c : Nat) (l : List RH) (x : Int) (a1 : Option Addr) (n1 c1 : Nat) (p1 : List Int) (a2 : Option Addr) (n2 c2 : Nat) (p2 : List Int)
    (hl : Sl dRef All w a n c l) (hx : inK .i64 x) (h1 : Sl dId All w a1 n1 c1 p1) (h2 : Sl dId All w a2 n2 c2 p2) :
    Ret Try.prog 10 #[.slice a n c, .int .i64 x, .agg #[.slice a1 n1 c1, .slice a2 n2 c2]] w fun v w' => v = .bool true ∧ Ext w w' := by
  refine Ret_of (l := [_, _, _]) Try.func10 rfl Try.ntmps10 (by simp) ?_
  have hs := St.init w
  obtain ⟨E, hE0⟩ : ∃ E, E = ownL l := ⟨_, rfl⟩
  have hEl : E.length ≤ 30 := by rw [hE0]; exact ownL_len l
  have hEt : tot E ≤ 1800 := by rw [hE0]; exact ownL_tot l
  obtain ⟨q1, hq1⟩ : ∃ q, q = min n1 14 := ⟨_, rfl⟩
  obtain ⟨q2, hq2⟩ : ∃ q, q = min n2 14 := ⟨_, rfl⟩
  have hm1 := h1.len
  have hm2 := h2.len
  have hmc1 := h1.le
  have hmc2 := h2.le
  have hcp1 := h1.cap
  have hcp2 := h2.cap
  unfold maxLen at hcp1 hcp2
  have g1 := h1.cutR q1 (by omega)
  have g2 := h2.cutR q2 (by omega)
  obtain ⟨was, hwas⟩ : ∃ t, t = p1.take q1 := ⟨_, rfl⟩
  obtain ⟨is_, his⟩ : ∃ t, t = p2.take q2 := ⟨_, rfl⟩
  rw [← hwas] at g1
  rw [← his] at g2
  have gl1 := g1.len
  have gl2 := g2.len
  have hwo : ∀ i ∈ was, okId i := fun i hi => by
    obtain ⟨k, hk⟩ := List.mem_iff_getElem?.1 hi
    exact (g1.elF hk).1
  have hio : ∀ i ∈ is_, okId i := fun i hi => by
    obtain ⟨k, hk⟩ := List.mem_iff_getElem?.1 hi
    exact (g2.elF hk).1
  obtain ⟨N, hNd⟩ : ∃ N, N = retM E x was is_ := ⟨_, rfl⟩
  by_cases h0 : N.2 = 0
  · obtain ⟨hR, hback⟩ := retype_back (by rw [← hNd]; exact h0)
    rw [← hNd] at hR hback
    obtain ⟨i1, i2⟩ := tot_le (right_ok.1 hR)
    have i3 := (right_may hR).2
    have hEE : decide (E = E) = true := decide_eq_true rfl
    repeat' (first
      | ((apply al_none (t := 13); refine JL_o (OpR_callF en35 rfl (rwakes_r _)) rfl rfl ?_; rintro _ _ ⟨rfl, hE⟩; have hs := hs.ext hE))
      | ((apply al_call 36; refine JL_o (by exact OpR_callF en36 rfl (rlown_r _ a n c l (hl.st hs))) rfl rfl ?_; rintro _ _ ⟨qs, a5, c5, ⟨hqm, hqo⟩, rfl, hf⟩; rw [← hE0] at hqm; have hs := hs.fresh hf; have hql : qs.length ≤ 30 := (by have := congrArg List.length hqm; rw [List.length_map] at this; omega); (try simp only [List.cons_append, List.nil_append] at hs)))
      | ((apply ax_c; apply JX_cF 23; exact rfl; (intro W X hN hs; exact OpR_callF en23 rfl (cloneI_r _ a1 q1 c1 was (g1.st hs) (by omega))); (rintro _ _ _ _ ⟨a24, c24, rfl, hf⟩; first | exact hE | exact Fresh.ext hf); rintro W X _ _ hN hs ⟨a24, c24, rfl, hf⟩; have hs := hs.fresh hf; (try simp only [List.cons_append, List.nil_append] at hs); refine JX.at hs ?_))
      | ((apply ax_c; apply JX_cF 23; exact rfl; (intro W X hN hs; exact OpR_callF en23 rfl (cloneI_r _ a2 q2 c2 is_ (g2.st hs) (by omega))); (rintro _ _ _ _ ⟨a32, c32, rfl, hf⟩; first | exact hE | exact Fresh.ext hf); rintro W X _ _ hN hs ⟨a32, c32, rfl, hf⟩; have hs := hs.fresh hf; (try simp only [List.cons_append, List.nil_append] at hs); refine JX.at hs ?_))
      | ((apply al_call 54; refine JL_o (by exact OpR_callF en54 rfl (rretype_r _ a5 a24 a32 qs.length c5 q1 c24 q2 c32 (qs.map meanQ) x was is_ (slQ hs (by repeat (first | exact List.Mem.head _ | apply List.Mem.tail)) (by repeat (first | exact List.Mem.head _ | apply List.Mem.tail)) hqo) (slU hs (by repeat (first | exact List.Mem.head _ | apply List.Mem.tail)) hwo) (slU hs (by repeat (first | exact List.Mem.head _ | apply List.Mem.tail)) hio) hx (by omega) (by rw [hqm]; omega) (by omega) (by omega))) rfl rfl ?_; rintro _ _ ⟨qn, a6, c6, ⟨hnm, hno6⟩, rfl, hf⟩; rw [hqm, ← hNd] at hnm ⊢; rw [h0]; have hs := hs.fresh hf; have hnl : qn.length ≤ 50000 := (by have := congrArg List.length hnm; rw [List.length_map] at this; omega); (try simp only [List.cons_append, List.nil_append] at hs)))
      | ((apply al_call 54; refine JL_o (by exact OpR_callF en54 rfl (rretype_r _ a6 a32 a24 qn.length c6 q2 c32 q1 c24 (qn.map meanQ) x is_ was (slQ hs (by repeat (first | exact List.Mem.head _ | apply List.Mem.tail)) (by repeat (first | exact List.Mem.head _ | apply List.Mem.tail)) hno6) (slU hs (by repeat (first | exact List.Mem.head _ | apply List.Mem.tail)) hio) (slU hs (by repeat (first | exact List.Mem.head _ | apply List.Mem.tail)) hwo) hx (by omega) (by rw [hnm]; omega) (by omega) (by omega))) rfl rfl ?_; rintro _ _ ⟨qb, a10, c10, ⟨hbm, hbo⟩, rfl, hf⟩; rw [hnm, hback] at hbm ⊢; have hs := hs.fresh hf; (try simp only [List.cons_append, List.nil_append] at hs)))
      | ((apply al_callg 53; refine JL_o_on rfl gb (by exact OpR_callF en53 rfl (requal_r _ a10 a5 qb.length c10 qs.length c5 (qb.map meanQ) (qs.map meanQ) (slQ hs (by repeat (first | exact List.Mem.head _ | apply List.Mem.tail)) (by repeat (first | exact List.Mem.head _ | apply List.Mem.tail)) hbo) (slQ hs (by repeat (first | exact List.Mem.head _ | apply List.Mem.tail)) (by repeat (first | exact List.Mem.head _ | apply List.Mem.tail)) hqo))) rfl rfl ?_; rintro _ _ ⟨rfl, hE⟩; rw [hbm, hqm, hEE]; have hs := hs.ext hE; (try simp only [List.cons_append, List.nil_append] at hs)))
      | ((apply al_callg 40; refine JL_o_on rfl gb (by exact OpR_callF en40 rfl (rcheck_r _ a6 qn.length c6 (qn.map meanQ) (slQ hs (by repeat (first | exact List.Mem.head _ | apply List.Mem.tail)) (by repeat (first | exact List.Mem.head _ | apply List.Mem.tail)) hno6) (by omega) (by rw [hnm]; omega))) rfl rfl ?_; rintro _ _ ⟨rfl, hE⟩; rw [hnm, err_ok hR]; have hs := hs.ext hE; (try simp only [List.cons_append, List.nil_append] at hs)))
      | (apply JL_nil)
      | ((first | (apply JL_pure) | (apply JL_pure_on; exact rfl; exact gb) | (apply JX_f; exact rfl; intro W X hs)); (first
      | (apply as_load; first | exact OpR_load' hs rfl rfl is_rfl | exact OpR_load_agg' hs rfl is_rfl)
      | (apply as_slice; exact OpR_slice (kl := .i64) (kh := .i64) (km := .i64) (a' := a1) (m := c1) (h := min (n1 : Int) 14) rfl (.inl ⟨rfl, rfl⟩) (.inr ⟨_, rfl, rfl⟩) (.inl ⟨rfl, rfl⟩) (by omega) (by omega) (by omega) (by omega) (by split; rfl; exact addr0 _) (by rw [show (min (n1 : Int) 14 - 0).toNat = q1 by omega, Int.sub_zero, Int.toNat_natCast]; exact is_rfl))
      | (apply as_slice; exact OpR_slice (kl := .i64) (kh := .i64) (km := .i64) (a' := a2) (m := c2) (h := min (n2 : Int) 14) rfl (.inl ⟨rfl, rfl⟩) (.inr ⟨_, rfl, rfl⟩) (.inl ⟨rfl, rfl⟩) (by omega) (by omega) (by omega) (by omega) (by split; rfl; exact addr0 _) (by rw [show (min (n2 : Int) 14 - 0).toNat = q2 by omega, Int.sub_zero, Int.toNat_natCast]; exact is_rfl))
      | (apply as_move; exact OpR_move rfl is_rfl)
      | (apply as_assign; exact OpR_assign rfl is_rfl)
      | (apply as_binOp; exact OpR_ibin rfl rfl rfl is_rfl)
      | (apply as_unOp; exact OpR_not rfl is_rfl)
      | (apply as_pick; exact OpR_pick_t rfl gb rfl is_rfl)
      | (apply as_b_len; exact OpR_len rfl is_rfl)
      | (apply as_extract; exact OpR_extract rfl rfl is_rfl)
      | (apply as_b_min; exact OpR_min rfl rfl is_rfl)
      | (apply as_indexAddr; exact OpR_indexAddr_arr' rfl rfl (by omega) (by omega) (by first | (simp only [Int.reduceToNat, Nat.reduceMul, Nat.reduceAdd]; exact rfl) | exact rfl) is_rfl)); first | (exact rfl; exact rfl) | exact rfl)
      | (apply J_seq)
      | (apply J_region)
      | (apply J_skip)
      | (apply al_none (t := 5); refine JL_o (by apply as_box; exact OpR_box' hs rfl) rfl rfl ?_; rintro _ _ ⟨b5, rfl, hb5, hs, hE⟩)
      | (apply aj_cond; first | refine J_dec_f rfl ob ?_ | refine J_cond_f rfl gb ?_)
      | (apply aj_draw; (refine J_drawX (id := 4) [0, 1, 0, 4, 12, 28, 63, 127, 0, 256, 0, 1024, 3072, 7168, 16128, 32767, 65535, 131071] [(0, 0), (1, 0), (2, 0), (3, 0), (4, 0), (5, 0), (6, 0), (8, 0), (9, 0), (10, 0), (11, 0), (12, 0), (13, 0), (14, 0), (7, 1), (15, 1), (16, 0), (17, 0)] [] hs mixed (by kernel_rfl) (by kernel_rfl) (by kernel_rfl) (by kernel_rfl) (by kernel_rfl) ?_))
      | (refine JX_done (fun W hs => ?_))
      | (apply JD_done))
    refine J_leave Try.func10 rfl (.tmp rfl .nil) ⟨rfl, hs.frm.ext⟩
  · have hNn : N.1 = [] := by rw [hNd]; exact retM_none (by rw [← hNd]; exact h0)
    repeat' (first
      | ((apply al_none (t := 13); refine JL_o (OpR_callF en35 rfl (rwakes_r _)) rfl rfl ?_; rintro _ _ ⟨rfl, hE⟩; have hs := hs.ext hE))
      | ((apply al_call 36; refine JL_o (by exact OpR_callF en36 rfl (rlown_r _ a n c l (hl.st hs))) rfl rfl ?_; rintro _ _ ⟨qs, a5, c5, ⟨hqm, hqo⟩, rfl, hf⟩; rw [← hE0] at hqm; have hs := hs.fresh hf; have hql : qs.length ≤ 30 := (by have := congrArg List.length hqm; rw [List.length_map] at this; omega); (try simp only [List.cons_append, List.nil_append] at hs)))
      | ((apply ax_c; apply JX_cF 23; exact rfl; (intro W X hN hs; exact OpR_callF en23 rfl (cloneI_r _ a1 q1 c1 was (g1.st hs) (by omega))); (rintro _ _ _ _ ⟨a24, c24, rfl, hf⟩; first | exact hE | exact Fresh.ext hf); rintro W X _ _ hN hs ⟨a24, c24, rfl, hf⟩; have hs := hs.fresh hf; (try simp only [List.cons_append, List.nil_append] at hs); refine JX.at hs ?_))
      | ((apply ax_c; apply JX_cF 23; exact rfl; (intro W X hN hs; exact OpR_callF en23 rfl (cloneI_r _ a2 q2 c2 is_ (g2.st hs) (by omega))); (rintro _ _ _ _ ⟨a32, c32, rfl, hf⟩; first | exact hE | exact Fresh.ext hf); rintro W X _ _ hN hs ⟨a32, c32, rfl, hf⟩; have hs := hs.fresh hf; (try simp only [List.cons_append, List.nil_append] at hs); refine JX.at hs ?_))
      | ((apply al_call 54; refine JL_o (by exact OpR_callF en54 rfl (rretype_r _ a5 a24 a32 qs.length c5 q1 c24 q2 c32 (qs.map meanQ) x was is_ (slQ hs (by repeat (first | exact List.Mem.head _ | apply List.Mem.tail)) (by repeat (first | exact List.Mem.head _ | apply List.Mem.tail)) hqo) (slU hs (by repeat (first | exact List.Mem.head _ | apply List.Mem.tail)) hwo) (slU hs (by repeat (first | exact List.Mem.head _ | apply List.Mem.tail)) hio) hx (by omega) (by rw [hqm]; omega) (by omega) (by omega))) rfl rfl ?_; rintro _ _ ⟨qn, a6, c6, ⟨hnm, hno6⟩, rfl, hf⟩; rw [hqm, ← hNd] at hnm ⊢; have hs := hs.fresh hf; have hnl : qn.length = 0 := (by have := congrArg List.length hnm; rw [List.length_map, hNn] at this; exact this); rw [hnl]; (try simp only [List.cons_append, List.nil_append] at hs)))
      | (apply JL_nil)
      | ((first | (apply JL_pure) | (apply JX_f; exact rfl; intro W X hs)); (first
      | (apply as_load; first | exact OpR_load' hs rfl rfl is_rfl | exact OpR_load_agg' hs rfl is_rfl)
      | (apply as_slice; exact OpR_slice (kl := .i64) (kh := .i64) (km := .i64) (a' := a1) (m := c1) (h := min (n1 : Int) 14) rfl (.inl ⟨rfl, rfl⟩) (.inr ⟨_, rfl, rfl⟩) (.inl ⟨rfl, rfl⟩) (by omega) (by omega) (by omega) (by omega) (by split; rfl; exact addr0 _) (by rw [show (min (n1 : Int) 14 - 0).toNat = q1 by omega, Int.sub_zero, Int.toNat_natCast]; exact is_rfl))
      | (apply as_slice; exact OpR_slice (kl := .i64) (kh := .i64) (km := .i64) (a' := a2) (m := c2) (h := min (n2 : Int) 14) rfl (.inl ⟨rfl, rfl⟩) (.inr ⟨_, rfl, rfl⟩) (.inl ⟨rfl, rfl⟩) (by omega) (by omega) (by omega) (by omega) (by split; rfl; exact addr0 _) (by rw [show (min (n2 : Int) 14 - 0).toNat = q2 by omega, Int.sub_zero, Int.toNat_natCast]; exact is_rfl))
      | (apply as_move; exact OpR_move rfl is_rfl)
      | (apply as_assign; exact OpR_assign rfl is_rfl)
      | (apply as_binOp; exact OpR_ibin rfl rfl rfl is_rfl)
      | (apply as_unOp; exact OpR_not rfl is_rfl)
      | (apply as_b_len; exact OpR_len rfl is_rfl)
      | (apply as_extract; exact OpR_extract rfl rfl is_rfl)
      | (apply as_b_min; exact OpR_min rfl rfl is_rfl)
      | (apply as_indexAddr; exact OpR_indexAddr_arr' rfl rfl (by omega) (by omega) (by first | (simp only [Int.reduceToNat, Nat.reduceMul, Nat.reduceAdd]; exact rfl) | exact rfl) is_rfl)); first | (exact rfl; exact rfl) | exact rfl)
      | (apply J_seq)
      | (apply J_region)
      | (apply J_skip)
      | (apply al_none (t := 5); refine JL_o (by apply as_box; exact OpR_box' hs rfl) rfl rfl ?_; rintro _ _ ⟨b5, rfl, hb5, hs, hE⟩)
      | (apply aj_cond; first | refine J_dec_t rfl ob ?_ | refine J_cond_f rfl gb ?_)
      | (apply aj_draw; (refine J_drawX (id := 4) [0, 1, 0, 4, 12, 28, 63, 127, 0, 256, 0, 1024, 3072, 7168, 16128, 32767, 65535, 131071] [(0, 0), (1, 0), (2, 0), (3, 0), (4, 0), (5, 0), (6, 0), (8, 0), (9, 0), (10, 0), (11, 0), (12, 0), (13, 0), (14, 0), (7, 1), (15, 1), (16, 0), (17, 0)] [] hs mixed (by kernel_rfl) (by kernel_rfl) (by kernel_rfl) (by kernel_rfl) (by kernel_rfl) ?_))
      | (refine JX_done (fun W hs => ?_))
      | (apply JD_done))
    refine J_leave Try.func10 rfl (.tmp rfl .nil) ⟨rfl, hs.frm.ext⟩
end Go.Eng
