/- The texts K22, joined. -/
import Derived.Test.YtcoldgkhlkjjmaaX4
/- ReferWhole. -/
namespace Go.Eng
open Go.Proofs
set_option linter.unusedSimpArgs false
set_option linter.unusedVariables false
/-- How often all that is held stands in rows. -/
def twice (A : List HH) : Nat := (A.map fun h => if (partsM h.2).1 = (partsM h.2).2 then 1 else 2).sum
theorem twice_cons (h : HH) (A : List HH) : twice (h :: A) = (if (partsM h.2).1 = (partsM h.2).2 then 1 else 2) + twice A := by unfold twice; rw [List.map_cons, List.sum_cons]
theorem twice_le (A : List HH) : twice A ≤ 2 * A.length := by
  induction A with
  | nil => exact Nat.le_refl _
  | cons h A ih =>
    rw [twice_cons, List.length_cons]
    split <;> omega
/-- A row of rising numbers has each once. -/
theorem count_rising {is_ : List Int} (h : risingI is_) (n : Int) : (is_.filter fun m => decide (m = n)).length = if n ∈ is_ then 1 else 0 := by
  induction is_ with
  | nil => rfl
  | cons m is_ ih =>
    unfold risingI at h
    rw [List.pairwise_cons] at h
    have ih := ih h.2
    rw [List.filter_cons]
    by_cases e : m = n
    · subst e
      have hn : m ∉ is_ := fun hm => Int.lt_irrefl _ (h.1 m hm)
      rw [if_neg hn] at ih
      rw [if_pos (by simp), List.length_cons, ih, if_pos List.mem_cons_self]
    · rw [if_neg (by simpa using e), ih]
      by_cases hm : n ∈ is_
      · rw [if_pos hm, if_pos (List.mem_cons_of_mem _ hm)]
      · rw [if_neg hm, if_neg (fun h => by rcases List.mem_cons.1 h with e2 | e2; exact e e2.symm; exact hm e2)]
theorem count_ment {is_ : List Int} (h : risingI is_) {p : Int} (hm : ∀ n, mentB p n = true → n ∈ is_) : (is_.filter fun m => mentB p m).length = if (partsM p).1 = (partsM p).2 then 1 else 2 := by
  have h1 := count_rising h (partsM p).1
  have h2 := count_rising h (partsM p).2
  rw [if_pos (hm _ (ment_iff.2 (.inl rfl)))] at h1
  rw [if_pos (hm _ (ment_iff.2 (.inr rfl)))] at h2
  by_cases e : (partsM p).1 = (partsM p).2
  · rw [if_pos e, ← h1]
    congr 2
    funext m
    unfold mentB
    rw [← e, Bool.or_self]
    exact decide_eq_decide.2 eq_comm
  · rw [if_neg e]
    have key : ∀ l : List Int, (l.filter fun m => mentB p m).length = (l.filter fun m => decide (m = (partsM p).1)).length + (l.filter fun m => decide (m = (partsM p).2)).length := by
      intro l
      induction l with
      | nil => rfl
      | cons m l ih =>
        rw [List.filter_cons, List.filter_cons, List.filter_cons]
        by_cases e1 : m = (partsM p).1
        · have e2 : ¬ m = (partsM p).2 := fun h => e (e1.symm.trans h)
          rw [if_pos (ment_iff.2 (.inl e1.symm)), if_pos (by simpa using e1), if_neg (by simpa using e2), List.length_cons, List.length_cons, ih]; omega
        · by_cases e2 : m = (partsM p).2
          · rw [if_pos (ment_iff.2 (.inr e2.symm)), if_neg (by simpa using e1), if_pos (by simpa using e2), List.length_cons, List.length_cons, ih]; omega
          · rw [if_neg (fun h => by rcases ment_iff.1 h with h | h; exact e1 h.symm; exact e2 h.symm), if_neg (by simpa using e1), if_neg (by simpa using e2), ih]
    rw [key, h1, h2]
theorem tot_twice {l : List RH} (h : OkR l) : tot l = twice (allH l) := by
  obtain ⟨A, hA⟩ : ∃ A, A = allH l := ⟨_, rfl⟩
  have hof := of_ok h
  rw [← hA] at hof ⊢
  have hri := idxH_rising A
  have hcov : ∀ x ∈ A, ∀ n, mentB x.2 n = true → n ∈ idxH A := fun x hx n hn => idxH_mem.2 ⟨x, hx, hn⟩
  rw [hof]
  unfold tot ofH
  have key : ∀ (B : List HH) (is_ : List Int), risingI is_ → (∀ x ∈ B, ∀ n, mentB x.2 n = true → n ∈ is_) → ((is_.map fun n => (n, underH B n)).flatMap (·.2)).length = twice B := by
    intro B is_ hri hcov
    have h1 : ((is_.map fun n => (n, underH B n)).flatMap (·.2)).length = (is_.map fun n => (underH B n).length).sum := by
      rw [List.length_flatMap, List.map_map]; rfl
    rw [h1]
    clear h1
    induction B with
    | nil =>
      show (is_.map fun n => 0).sum = 0
      clear hri hcov
      induction is_ with
      | nil => rfl
      | cons n is_ ih => rw [List.map_cons, List.sum_cons, ih]; rfl
    | cons x B ih =>
      have ih := ih (fun y hy => hcov y (List.mem_cons_of_mem _ hy))
      rw [twice_cons, ← ih, ← count_ment hri (hcov x List.mem_cons_self)]
      have h2 : ∀ js : List Int, (js.map fun n => (underH (x :: B) n).length).sum = (js.filter fun m => mentB x.2 m).length + (js.map fun n => (underH B n).length).sum := by
        intro js
        induction js with
        | nil => rfl
        | cons n js ih2 =>
          rw [List.map_cons, List.sum_cons, List.map_cons, List.sum_cons, List.filter_cons, ih2]
          unfold underH
          rw [List.filter_cons]
          by_cases e : mentB x.2 n = true
          · rw [if_pos e, if_pos e, List.length_cons, List.length_cons]; omega
          · rw [if_neg e, if_neg e]; omega
      exact h2 is_
  exact key A (idxH A) hri hcov
theorem tot_succ {l : List RH} {k : Nat} {x : RH} (hx : l[k]? = some x) : tot (l.take (k + 1)) = tot (l.take k) + x.2.length := by
  unfold tot
  rw [flat_succ hx, List.length_append]
theorem twice_succ {A : List HH} {k : Nat} {x : HH} (hx : A[k]? = some x) : twice A = twice (A.take k) + ((if (partsM x.2).1 = (partsM x.2).2 then 1 else 2) + twice (A.drop (k + 1))) ∧ twice (A.take (k + 1)) = twice (A.take k) + (if (partsM x.2).1 = (partsM x.2).2 then 1 else 2) := by
  have hk := (List.getElem?_eq_some_iff.1 hx).1
  have happ : ∀ B C : List HH, twice (B ++ C) = twice B + twice C := fun B C => by unfold twice; rw [List.map_append, List.sum_append]
  have e : A = A.take k ++ x :: A.drop (k + 1) := by
    have h1 : x = A[k]'hk := (List.getElem?_eq_some_iff.1 hx).2.symm
    rw [h1, ← List.drop_eq_getElem_cons hk, List.take_append_drop]
  refine ⟨?_, ?_⟩
  · conv => lhs; rw [e]
    rw [happ, twice_cons]
  · rw [List.take_add_one, hx, happ]; unfold twice; simp
attribute [local irreducible] Hold J JL JD JX JXat OpR OpG Ret RetV Is Blk Row MapC
set_option maxRecDepth 100000
set_option maxHeartbeats 1000000
theorem referWhole_w (w : World) (a : Option Addr) (n c : Nat) (l : List RH) (h : Sl dRef All w a n c l) :
    Ret Try.prog 8 #[.slice a n c] w fun v w' => v = .bool true ∧ Ext w w' := by
  refine Ret_of (l := [_]) Try.func8 rfl Try.ntmps8 (by simp) ?_
  have hs := St.init w
  obtain ⟨E, hE0⟩ : ∃ E, E = ownL l := ⟨_, rfl⟩
  have hEl : E.length ≤ 30 := by rw [hE0]; exact ownL_len l
  have hEt : tot E ≤ 1800 := by rw [hE0]; exact ownL_tot l
  have hEo : ∀ r ∈ E, inK .i64 r.1 ∧ ∀ x ∈ r.2, okH x := fun r hr => by
    rw [hE0] at hr
    unfold ownL at hr
    obtain ⟨q, hq, rfl⟩ := List.mem_map.1 hr
    have := sl_okR h q (List.mem_of_mem_take hq)
    exact ⟨this.1, fun x hx => this.2 x (List.mem_of_mem_take hx)⟩
  cases hbb : rightH E with
  | false =>
    have hA : allR E = [] := by unfold allR; rw [hbb]; rfl
    repeat' (first
      | ((apply al_none (t := 14); refine JL_o (OpR_callF en35 rfl (rwakes_r _)) rfl rfl ?_; rintro _ _ ⟨rfl, hE⟩; have hs := hs.ext hE))
      | ((apply al_call 36; refine JL_o (by exact OpR_callF en36 rfl (rlown_r _ a n c l (h.st hs))) rfl rfl ?_; rintro _ _ ⟨qs, a1, c1, ⟨hqm, hqo⟩, rfl, hf⟩; rw [← hE0] at hqm; have hs := hs.fresh hf; have hql : qs.length ≤ 30 := (by have := congrArg List.length hqm; rw [List.length_map] at this; omega); (try simp only [List.cons_append, List.nil_append] at hs)))
      | ((apply al_call 39; refine JL_o (by exact OpR_callF en39 rfl (rall_r _ a1 qs.length c1 (qs.map meanQ) (slQ hs (by repeat (first | exact List.Mem.head _ | apply List.Mem.tail)) (by repeat (first | exact List.Mem.head _ | apply List.Mem.tail)) hqo) (by omega) (by rw [hqm]; omega))) rfl rfl ?_; rintro _ _ ⟨a8, c8, rfl, hf⟩; rw [hqm, hA] at hf ⊢; have hs := hs.fresh hf; (try simp only [List.cons_append, List.nil_append] at hs)))
      | ((apply al_call 40; refine JL_o (by exact OpR_callF en40 rfl (rcheck_r _ a1 qs.length c1 (qs.map meanQ) (slQ hs (by repeat (first | exact List.Mem.head _ | apply List.Mem.tail)) (by repeat (first | exact List.Mem.head _ | apply List.Mem.tail)) hqo) (by omega) (by rw [hqm]; omega))) rfl rfl ?_; rintro _ _ ⟨rfl, hE⟩; rw [hqm, err_bad hbb]; have hs := hs.ext hE; (try simp only [List.cons_append, List.nil_append] at hs)))
      | (apply JL_nil)
      | ((apply JL_pure); (first
      | (apply as_move; exact OpR_move rfl is_rfl)
      | (apply as_assign; exact OpR_assign rfl is_rfl)
      | (apply as_binOp; exact OpR_ibin rfl rfl rfl is_rfl)
      | (apply as_unOp; exact OpR_not rfl is_rfl)
      | (apply as_b_len; exact OpR_len rfl is_rfl)); first | (exact rfl; exact rfl) | exact rfl)
      | (apply J_seq)
      | (apply J_region)
      | (apply J_skip)
      | (apply aj_cond; first | refine J_dec_t rfl ob ?_ | refine J_cond_f rfl gb ?_))
    refine J_leave Try.func8 rfl (.tmp rfl .nil) ⟨rfl, hs.frm.ext⟩
  | true =>
    have hok := right_ok.1 hbb
    obtain ⟨Us, hU⟩ : ∃ Us, Us = allH E := ⟨_, rfl⟩
    have hA : allR E = Us := by rw [hU]; unfold allR; rw [hbb]; rfl
    have hO : ∀ x, ofR E x = underH Us x := fun x => by rw [hU]; unfold ofR; rw [hbb]; rfl
    have hUl : Us.length ≤ 1800 := by rw [hU]; exact Nat.le_trans (allH_len E) hEt
    have hUo : ∀ x ∈ Us, okH x := by rw [hU]; exact allH_ok hEo
    have htt : tot E = twice Us := by rw [hU]; exact tot_twice hok
    have hrow : ∀ r ∈ E, underH Us r.1 = r.2 := fun r hr => by rw [hU, under_look hok]; exact lookH_of hok.rise hr
    have huo : ∀ x, ∀ y ∈ underH Us x, okH y := fun x y hy => hUo y (underH_mem.1 hy).1
    repeat' (first
      | ((apply al_none (t := 14); refine JL_o (OpR_callF en35 rfl (rwakes_r _)) rfl rfl ?_; rintro _ _ ⟨rfl, hE⟩; have hs := hs.ext hE))
      | ((apply al_call 36; refine JL_o (by exact OpR_callF en36 rfl (rlown_r _ a n c l (h.st hs))) rfl rfl ?_; rintro _ _ ⟨qs, a1, c1, ⟨hqm, hqo⟩, rfl, hf⟩; rw [← hE0] at hqm; have hs := hs.fresh hf; have hql : qs.length ≤ 30 := (by have := congrArg List.length hqm; rw [List.length_map] at this; omega); (try simp only [List.cons_append, List.nil_append] at hs)))
      | ((apply al_call 39; refine JL_o (by exact OpR_callF en39 rfl (rall_r _ a1 qs.length c1 (qs.map meanQ) (slQ hs (by repeat (first | exact List.Mem.head _ | apply List.Mem.tail)) (by repeat (first | exact List.Mem.head _ | apply List.Mem.tail)) hqo) (by omega) (by rw [hqm]; omega))) rfl rfl ?_; rintro _ _ ⟨a8, c8, rfl, hf⟩; rw [hqm, hA] at hf ⊢; have hs := hs.fresh hf; (try simp only [List.cons_append, List.nil_append] at hs)))
      | ((apply al_call 40; refine JL_o (by exact OpR_callF en40 rfl (rcheck_r _ a1 qs.length c1 (qs.map meanQ) (slQ hs (by repeat (first | exact List.Mem.head _ | apply List.Mem.tail)) (by repeat (first | exact List.Mem.head _ | apply List.Mem.tail)) hqo) (by omega) (by rw [hqm]; omega))) rfl rfl ?_; rintro _ _ ⟨rfl, hE⟩; rw [hqm, err_ok hbb]; have hs := hs.ext hE; (try simp only [List.cons_append, List.nil_append] at hs)))
      | (apply JL_nil)
      | ((apply JL_pure); (first
      | (apply as_move; exact OpR_move rfl is_rfl)
      | (apply as_assign; exact OpR_assign rfl is_rfl)
      | (apply as_binOp; exact OpR_ibin rfl rfl rfl is_rfl)
      | (apply as_unOp; exact OpR_not rfl is_rfl)
      | (apply as_b_len; exact OpR_len rfl is_rfl)); first | (exact rfl; exact rfl) | exact rfl)
      | (apply J_seq)
      | (apply J_region)
      | (apply J_block)
      | (apply J_skip)
      | (apply aj_cond; first | refine J_dec_f rfl ob ?_ | refine J_cond_f rfl gb ?_))
    have hqlE : qs.length = E.length := by have := congrArg List.length hqm; rw [List.length_map] at this; exact this
    have hqlm : (qs.map meanQ).length = qs.length := List.length_map _
    refine J_loopK (α := Nat × Nat) [(3, _), (4, _), (26, _), (27, _)] (fun g => [(5, .int .i64 g.2), (28, .int .i64 g.1)]) (fun g w' => St w NoF w' [RowH a8 Us.length c8 Us, TabQ a1 qs.length c1 (qs.map rawQ), OwnQ qs] ∧ g.1 ≤ qs.length ∧ g.2 = tot (E.take g.1)) (fun g => qs.length - g.1) (0, 0) ⟨hs, Nat.zero_le _, rfl⟩ (by repeat' (first | exact trivial | exact rfl | apply And.intro)) ?_
    rintro ⟨k, mny⟩ w2 ⟨hs1, hk, hmny⟩ ih
    dsimp only at hs1 hk hmny ih ⊢
    by_cases hlt : k < qs.length
    · have hs : St w NoF w2 [_, _, _] := hs1
      obtain ⟨p, o, rfl⟩ := (hs.row a1 qs.length c1).some (by omega)
      have hs : St w NoF w2 [_, _, _] := hs1
      have hqk : qs[k]? = some (qs[k]'hlt) := List.getElem?_eq_getElem hlt
      obtain ⟨q, hqd⟩ : ∃ q, q = qs[k]'hlt := ⟨_, rfl⟩
      rw [← hqd] at hqk
      have hEk : E[k]? = some (meanQ q) := by rw [← hqm, List.getElem?_map, hqk]; rfl
      have hEm := List.mem_of_getElem? hEk
      have hrk : (qs.map rawQ)[k]? = some (rawQ q) := by rw [List.getElem?_map, hqk]; rfl
      have hrw := hrow _ hEm
      have hld : ∀ (j : Nat) (u : Value), (cRef (rawQ q))[j]? = some u → (encL cRef (qs.map rawQ))[k * 2 + j]? = some u := fun j u hj => by
        have hj2 : j < 2 := (List.getElem?_eq_some_iff.1 hj).1
        rw [show (encL cRef (qs.map rawQ))[k * 2 + j]? = (cRef (rawQ q))[j]? from encL_get (d := dRRef) (qs.map rawQ) k j (rawQ q) hrk hj2]; exact hj
      obtain ⟨V, hV⟩ : ∃ V, V = underH Us q.1 := ⟨_, rfl⟩
      have hVq : V = q.2.2 := by rw [hV]; exact hrw
      have hVl : V.length ≤ 1800 := by rw [hV]; exact Nat.le_trans (List.length_filter_le _ _) hUl
      have hVo : ∀ y ∈ V, okH y := by rw [hV]; exact huo _
      have hts := tot_succ hEk
      have htle := tot_take E (k + 1)
      have hml : (meanQ q).2.length = V.length := by rw [hVq]
      repeat' (first
        | ((apply al_call 42; refine JL_o (by exact OpR_callF en42 rfl (rof_r _ (some ⟨p, o, none⟩) qs.length c1 (qs.map meanQ) q.1 (slQ hs (by repeat (first | exact List.Mem.head _ | apply List.Mem.tail)) (by repeat (first | exact List.Mem.head _ | apply List.Mem.tail)) hqo) (by omega) (by rw [hqm]; omega))) rfl rfl ?_; rintro _ _ ⟨a35, c35, rfl, hf⟩; rw [hqm, hO, ← hV] at hf ⊢; have hs := hs.fresh hf; (try simp only [List.cons_append, List.nil_append] at hs)))
        | (apply JL_nil)
        | ((apply JL_pure); (first
      | (apply as_load; first | exact OpR_load' hs rfl rfl is_rfl | exact OpR_load_agg' hs rfl is_rfl | exact OpR_loadN (b := p) (o := o) (off := k * 2) (n := qs.length) (c := c1) hs rfl rfl hld is_rfl)
      | (apply as_move; exact OpR_move rfl is_rfl)
      | (apply as_fieldAddr; exact OpR_fieldAddr0 rfl rfl is_rfl)
      | (apply as_binOp; exact OpR_ibin rfl rfl rfl is_rfl)
      | (apply as_b_len; exact OpR_len rfl is_rfl)
      | (apply as_indexAddr; exact OpR_indexAddr rfl rfl (by omega) (by omega) is_rfl)); first | (exact rfl; exact rfl) | exact rfl)
        | (apply J_seq)
        | (apply J_region)
        | (apply J_block)
        | (apply J_skip)
        | (apply al_none (t := 7); refine JL_o (by apply as_alloc; exact OpR_alloc' hs) rfl rfl ?_; rintro _ _ ⟨b7, rfl, hb7, hs, hE⟩)
        | (apply al_unit; refine JL_u (by apply as_store; exact OpR_store' hs rfl rfl rfl) rfl ?_; rintro _ _ ⟨hs, hF⟩)
        | (apply aj_cond; refine J_dec_t rfl ob ?_))
      refine J_loopK (α := Nat) [(3, _), (4, _), (26, _), (27, _), (28, _), (35, _), (36, _)] (fun j => [(5, .int .i64 (mny + j : Nat)), (37, .int .i64 j)]) (fun j w' => St w NoF w' [RowH a35 V.length c35 V, RowH a8 Us.length c8 Us, TabQ (some ⟨p, o, none⟩) qs.length c1 (qs.map rawQ), OwnQ qs] ∧ j ≤ V.length) (fun j => V.length - j) 0 ⟨hs.sel [0, 2, 3, 4] (by decide), Nat.zero_le _⟩ (by repeat' (first | exact trivial | exact rfl | apply And.intro)) ?_
      rintro j w3 ⟨hs1, hj⟩ ih2
      by_cases hlj : j < V.length
      · have hs : St w NoF w3 [_, _, _, _] := hs1
        obtain ⟨p2, o2, rfl⟩ := (hs.row a35 V.length c35).some (by omega)
        have hs : St w NoF w3 [_, _, _, _] := hs1
        have hy : V[j]? = some (V[j]'hlj) := List.getElem?_eq_getElem hlj
        obtain ⟨y, hyd⟩ : ∃ y, y = V[j]'hlj := ⟨_, rfl⟩
        rw [← hyd] at hy
        have hyU : y ∈ Us := by have := List.mem_of_getElem? hy; rw [hV] at this; exact (underH_mem.1 this).1
        repeat' (first
          | ((apply al_call 48; refine JL_o (by exact OpR_callF en48 rfl (contH_r _ a8 Us.length c8 Us y (slH hs (by repeat (first | exact List.Mem.head _ | apply List.Mem.tail)) hUo))) rfl rfl ?_; rintro _ _ ⟨rfl, hE⟩; rw [decide_eq_true hyU]; have hs := hs.ext hE; (try simp only [List.cons_append, List.nil_append] at hs)))
          | (apply JL_nil)
          | ((apply JL_pure); (first
      | (apply as_load; first | exact OpR_load' hs rfl rfl is_rfl | exact OpR_load_agg' hs rfl is_rfl | exact OpR_load_el (i := j) (slH (a := some ⟨p2, o2, none⟩) hs (by repeat (first | exact List.Mem.head _ | apply List.Mem.tail)) hVo) hy rfl rfl is_rfl)
      | (apply as_move; exact OpR_move rfl is_rfl)
      | (apply as_assign; exact OpR_assign rfl is_rfl)
      | (apply as_add; exact OpR_addn rfl rfl (by omega) (by first | (simp only [Int.reduceAdd]; exact rfl) | exact rfl) is_rfl)
      | (apply as_binOp; exact OpR_ibin rfl rfl rfl is_rfl)
      | (apply as_unOp; exact OpR_not rfl is_rfl)
      | (apply as_indexAddr; exact OpR_indexAddr rfl rfl (by omega) (by omega) is_rfl)); first | (exact rfl; exact rfl) | exact rfl)
          | (apply J_seq)
          | (apply J_region)
          | (apply J_block)
          | (apply J_inBlock)
          | (apply J_skip)
          | (apply al_none (t := 9); refine JL_o (by apply as_alloc; exact OpR_alloc' hs) rfl rfl ?_; rintro _ _ ⟨b9, rfl, hb9, hs, hE⟩)
          | (apply al_unit; refine JL_u (by apply as_store; exact OpR_store' hs rfl rfl rfl) rfl ?_; rintro _ _ ⟨hs, hF⟩)
          | (apply aj_cond; first | refine J_dec_t rfl ob ?_ | refine J_cond_f rfl gb ?_))
        refine ih2 (j + 1) _ _ ⟨hs.sel [1, 2, 3, 4] (by decide), hlj⟩ (by omega) (by repeat' (first | exact trivial | exact rfl | apply And.intro))
      · have hs : St w NoF w3 [_, _, _, _] := hs1
        have hjV : j = V.length := by omega
        subst hjV
        repeat' (first
          | (apply JL_nil)
          | ((apply JL_pure); (first
      | (apply as_move; exact OpR_move rfl is_rfl)
      | (apply as_add; exact OpR_addn rfl rfl (by omega) (by first | (simp only [Int.reduceAdd]; exact rfl) | exact rfl) is_rfl)
      | (apply as_binOp; exact OpR_ibin rfl rfl rfl is_rfl)); first | (exact rfl; exact rfl) | exact rfl)
          | (apply J_seq)
          | (apply J_region)
          | (apply J_inBlock)
          | (apply aj_exit; refine J_exit rfl ?_)
          | (apply aj_cond; refine J_dec_f rfl ob ?_))
        refine ih (k + 1, mny + V.length) _ _ ⟨hs.sel [1, 2, 3] (by decide), hlt, by show mny + V.length = _; rw [hts, hmny, hml]⟩ (by show qs.length - (k + 1) < qs.length - k; omega) (by repeat' (first | exact trivial | exact rfl | apply And.intro))
    · have hs : St w NoF w2 [_, _, _] := hs1
      rw [List.take_of_length_le (by omega), htt] at hmny
      have htw := twice_le Us
      repeat' (first
        | (apply JL_nil)
        | ((apply JL_pure); (first
      | (apply as_move; exact OpR_move rfl is_rfl)
      | (apply as_binOp; exact OpR_ibin rfl rfl rfl is_rfl)
      | (apply as_b_len; exact OpR_len rfl is_rfl)); first | (exact rfl; exact rfl) | exact rfl)
        | (apply J_seq)
        | (apply J_region)
        | (apply J_block)
        | (apply aj_exit; refine J_exit rfl ?_)
        | (apply aj_cond; refine J_dec_f rfl ob ?_))
      refine J_loopK (α := Nat × Nat) [(3, _), (49, _), (50, _)] (fun g => [(5, .int .i64 g.2), (51, .int .i64 g.1)]) (fun g w' => St w NoF w' [RowH a8 Us.length c8 Us, TabQ a1 qs.length c1 (qs.map rawQ), OwnQ qs] ∧ g.1 ≤ Us.length ∧ g.2 + twice (Us.take g.1) = twice Us) (fun g => Us.length - g.1) (0, mny) ⟨hs, Nat.zero_le _, by show mny + 0 = _; omega⟩ (by repeat' (first | exact trivial | exact rfl | apply And.intro)) ?_
      rintro ⟨j, left⟩ w3 ⟨hs1, hj, hleft⟩ ih2
      dsimp only at hs1 hj hleft ih2 ⊢
      by_cases hlj : j < Us.length
      · have hs : St w NoF w3 [_, _, _] := hs1
        obtain ⟨p2, o2, rfl⟩ := (hs.row a8 Us.length c8).some (by omega)
        have hs : St w NoF w3 [_, _, _] := hs1
        have hy : Us[j]? = some (Us[j]'hlj) := List.getElem?_eq_getElem hlj
        obtain ⟨y, hyd⟩ : ∃ y, y = Us[j]'hlj := ⟨_, rfl⟩
        rw [← hyd] at hy
        have hyU := List.mem_of_getElem? hy
        have hyo := hUo y hyU
        obtain ⟨ts1, ts2⟩ := twice_succ hy
        obtain ⟨r1, hr1⟩ : ∃ r1, r1 = (partsM y.2).1 := ⟨_, rfl⟩
        obtain ⟨r2, hr2⟩ : ∃ r2, r2 = (partsM y.2).2 := ⟨_, rfl⟩
        rw [← hr1, ← hr2] at ts1 ts2
        have hc1 : y ∈ underH Us r1 := underH_mem.2 ⟨hyU, ment_iff.2 (.inl hr1.symm)⟩
        have hc2 : y ∈ underH Us r2 := underH_mem.2 ⟨hyU, ment_iff.2 (.inr hr2.symm)⟩
        by_cases he : r1 = r2
        all_goals
          first
            | rw [if_pos he] at ts1 ts2
            | rw [if_neg he] at ts1 ts2
          repeat' (first
            | ((apply al_call 49; refine JL_o (by exact OpR_callF en49 rfl (parts_r _ y.2 hyo.2)) rfl rfl ?_; rintro _ _ ⟨rfl, hE⟩; rw [← hr1, ← hr2]; have hs := hs.ext hE; (try simp only [List.cons_append, List.nil_append] at hs)))
            | ((apply ax_c; apply JX_cF 42; exact rfl; (intro W X hN hs; exact OpR_callF en42 rfl (rof_r _ a1 qs.length c1 (qs.map meanQ) r1 (slQ hs (by repeat (first | exact List.Mem.head _ | apply List.Mem.tail)) (by repeat (first | exact List.Mem.head _ | apply List.Mem.tail)) hqo) (by omega) (by rw [hqm]; omega))); (rintro _ _ _ _ ⟨a63, c63, rfl, hf⟩; first | exact hE | exact Fresh.ext hf); rintro W X _ _ hN hs ⟨a63, c63, rfl, hf⟩; rw [hqm, hO] at hf ⊢; have hs := hs.fresh hf; (try simp only [List.cons_append, List.nil_append] at hs); refine JX.at hs ?_))
            | ((apply ax_c; apply JX_cF 48; exact rfl; (intro W X hN hs; exact OpR_callF en48 rfl (contH_r _ a63 _ c63 (underH Us r1) y (slH hs (by repeat (first | exact List.Mem.head _ | apply List.Mem.tail)) (huo r1)))); (rintro _ _ _ _ ⟨rfl, hE⟩; first | exact hE | exact Fresh.ext hf); rintro W X _ _ hN hs ⟨rfl, hE⟩; rw [decide_eq_true hc1]; have hs := hs.ext hE; (try simp only [List.cons_append, List.nil_append] at hs); refine JX.at hs ?_))
            | ((apply ax_c; apply JX_cFg 42; exact rfl; exact rfl; exact gb; (intro W X hN hs; exact OpR_callF en42 rfl (rof_r _ a1 qs.length c1 (qs.map meanQ) r2 (slQ hs (by repeat (first | exact List.Mem.head _ | apply List.Mem.tail)) (by repeat (first | exact List.Mem.head _ | apply List.Mem.tail)) hqo) (by omega) (by rw [hqm]; omega))); (rintro _ _ _ _ ⟨a70, c70, rfl, hf⟩; first | exact hE | exact Fresh.ext hf); rintro W X _ _ hN hs ⟨a70, c70, rfl, hf⟩; rw [hqm, hO] at hf ⊢; have hs := hs.fresh hf; (try simp only [List.cons_append, List.nil_append] at hs); refine JX.at hs ?_))
            | ((apply ax_c; apply JX_cFg 48; exact rfl; exact rfl; exact gb; (intro W X hN hs; exact OpR_callF en48 rfl (contH_r _ a70 _ c70 (underH Us r2) y (slH hs (by repeat (first | exact List.Mem.head _ | apply List.Mem.tail)) (huo r2)))); (rintro _ _ _ _ ⟨rfl, hE⟩; first | exact hE | exact Fresh.ext hf); rintro W X _ _ hN hs ⟨rfl, hE⟩; rw [decide_eq_true hc2]; have hs := hs.ext hE; (try simp only [List.cons_append, List.nil_append] at hs); refine JX.at hs ?_))
            | (apply JL_nil)
            | ((first | (apply JL_pure) | (apply JX_f; exact rfl; intro W X hs) | (apply JX_f_on; exact rfl; exact rfl; exact gb; intro W X hs)); (first
      | (apply as_load; first | exact OpR_load' hs rfl rfl is_rfl | exact OpR_load_agg' hs rfl is_rfl | exact OpR_load_el (i := j) (slH (a := some ⟨p2, o2, none⟩) hs (by repeat (first | exact List.Mem.head _ | apply List.Mem.tail)) hUo) hy rfl rfl is_rfl)
      | (apply as_move; exact OpR_move rfl is_rfl)
      | (apply as_assign; exact OpR_assign rfl is_rfl)
      | (apply as_fieldAddr; exact OpR_fieldAddr0 rfl rfl is_rfl)
      | (apply as_add; exact OpR_addn rfl rfl (by omega) (by first | (simp only [Int.reduceAdd]; exact rfl) | exact rfl) is_rfl)
      | (apply as_sub; exact OpR_sub rfl rfl (by omega) is_rfl)
      | (apply as_binOp; exact OpR_ibin rfl rfl rfl is_rfl)
      | (apply as_unOp; exact OpR_not rfl is_rfl)
      | (apply as_pick; exact OpR_pick_f rfl gb rfl is_rfl)
      | (apply as_extract; exact OpR_extract rfl rfl is_rfl)
      | (apply as_indexAddr; exact OpR_indexAddr rfl rfl (by omega) (by omega) is_rfl)); first | (exact rfl; exact rfl) | exact rfl)
            | (apply J_seq)
            | (apply J_region)
            | (apply J_block)
            | (apply J_inBlock)
            | (apply J_skip)
            | (apply al_none (t := 11); refine JL_o (by apply as_alloc; exact OpR_alloc' hs) rfl rfl ?_; rintro _ _ ⟨b11, rfl, hb11, hs, hE⟩)
            | (apply al_unit; refine JL_u (by apply as_store; exact OpR_store' hs rfl rfl rfl) rfl ?_; rintro _ _ ⟨hs, hF⟩)
            | (apply aj_cond; first | refine J_dec_t rfl ob ?_ | refine J_dec_f rfl ob ?_ | refine J_cond_f rfl gb ?_)
            | (apply aj_draw; (refine J_drawX (id := 23) [0, 0, 3, 0, 15, 31, 63, 127, 127, 511, 127, 2047, 4095, 8191] [(0, 0), (1, 0), (3, 0), (2, 1), (4, 1), (5, 0), (6, 0), (7, 0), (8, 0), (10, 0), (9, 1), (11, 1), (12, 0), (13, 0)] [] hs mixed (by kernel_rfl) (by kernel_rfl) (by kernel_rfl) (by kernel_rfl) (by kernel_rfl) ?_))
            | (refine JX_done (fun W hs => ?_))
            | (apply JD_done))
        · refine ih2 (j + 1, left - 1) _ _ ⟨hs.sel [3, 4, 5] (by decide), hlj, by show left - 1 + twice (Us.take (j + 1)) = twice Us; omega⟩ (by show Us.length - (j + 1) < Us.length - j; omega) (by dsimp only; rw [show ((left - 1 : Nat) : Int) = (left : Int) - 1 by omega]; repeat' (first | exact trivial | exact rfl | apply And.intro))
        · refine ih2 (j + 1, left - 2) _ _ ⟨hs.sel [3, 4, 5] (by decide), hlj, by show left - 2 + twice (Us.take (j + 1)) = twice Us; omega⟩ (by show Us.length - (j + 1) < Us.length - j; omega) (by dsimp only; rw [show ((left - 2 : Nat) : Int) = (left : Int) - 1 - 1 by omega]; repeat' (first | exact trivial | exact rfl | apply And.intro))
      · have hs : St w NoF w3 [_, _, _] := hs1
        rw [List.take_of_length_le (by omega)] at hleft
        have hl0 : left = 0 := by omega
        subst hl0
        repeat' (first
          | (apply JL_nil)
          | ((apply JL_pure); (first
      | (apply as_move; exact OpR_move rfl is_rfl)
      | (apply as_assign; exact OpR_assign rfl is_rfl)
      | (apply as_binOp; exact OpR_ibin rfl rfl rfl is_rfl)); first | (exact rfl; exact rfl) | exact rfl)
          | (apply J_seq)
          | (apply J_region)
          | (apply aj_exit; refine J_exit rfl ?_)
          | (apply aj_cond; refine J_dec_f rfl ob ?_))
        refine J_leave Try.func8 rfl (.tmp rfl .nil) ⟨rfl, hs.frm.ext⟩
end Go.Eng
