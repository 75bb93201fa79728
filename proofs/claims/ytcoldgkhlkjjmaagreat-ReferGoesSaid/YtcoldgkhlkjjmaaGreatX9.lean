/- The texts K29, joined. -/
import Derived.Test.YtcoldgkhlkjjmaaGreatX8
/- Referrers: ReferGoes. -/
namespace Go.Eng
open Go.Proofs
set_option linter.unusedSimpArgs false
set_option linter.unusedVariables false
theorem sput_no {L : List RH} {h : HH} {c : Int} (e : putC L h = c) (hc : c ≠ 0) : stepM true (L, 0) h = ([], c) := by
  unfold stepM
  rw [if_pos rfl, if_pos rfl]
  show (if putC L h = 0 then _ else ([], putC L h)) = _
  rw [e, if_neg hc]
theorem sdrop_no {L : List RH} {h : HH} {c : Int} (e : dropC L h = c) (hc : c ≠ 0) : stepM false (L, 0) h = ([], c) := by
  unfold stepM
  rw [if_pos rfl, if_neg (by decide)]
  show (if dropC L h = 0 then _ else ([], dropC L h)) = _
  rw [e, if_neg hc]
theorem of_nil : ofH [] = [] := rfl
theorem slNil (w : World) : Sl dHeld All w none 0 0 [] := slH ((St.init w).nilRow 31 2) (.head _) (fun x hx => by cases hx)
theorem tot_each {qs : List QR} {B : Nat} (h : tot (qs.map meanQ) ≤ B) : ∀ q ∈ qs, q.2.2.length ≤ B := fun q hq => by
  have := tot_row (List.mem_map_of_mem (f := meanQ) hq)
  exact Nat.le_trans this h
theorem tot_nil' : tot [] = 0 := rfl
abbrev InvG (bb : Bool) (m : List RH) : Prop := rightH m = bb ∧ m.length ≤ 40000 ∧ tot m ≤ 40000
theorem invG_right {m : List RH} (h : rightH m = true) : InvG true m := by
  obtain ⟨i1, i2⟩ := tot_le (right_ok.1 h)
  have := (right_may h).2
  exact ⟨h, by omega, by omega⟩
attribute [local irreducible] Hold J JL JD JX JXat OpR OpG Ret RetV Is Blk Row MapC
set_option maxRecDepth 100000
set_option maxHeartbeats 2000000
theorem referGoes_w (w : World) (a : Option Addr) (n c : Nat) (l : List RH) (a1 : Option Addr) (n1 c1 : Nat) (p0 : List HH) (a2 : Option Addr) (n2 c2 : Nat) (p1 : List HH) (hl : Sl dRef All w a n c l) (hp0 : Sl dHeld All w a1 n1 c1 p0) (hp1 : Sl dHeld All w a2 n2 c2 p1) :
    Ret Tryz.prog 3 #[.slice a n c, .slice a1 n1 c1, .slice a2 n2 c2] w fun v w' => v = .bool true ∧ Ext w w' := by
  refine Ret_of (l := [_, _, _]) Tryz.func3 rfl Tryz.ntmps3 (by simp) ?_
  have hs := St.init w
  obtain ⟨E, hE0⟩ : ∃ E, E = ownL l := ⟨_, rfl⟩
  have hEl : E.length ≤ 30 := by rw [hE0]; exact ownL_len l
  have hEt : tot E ≤ 1800 := by rw [hE0]; exact ownL_tot l
  obtain ⟨bb, hbb⟩ : ∃ bb, bb = rightH E := ⟨_, rfl⟩
  have hl0 := hp0.len
  have hl1 := hp1.len
  have hmx0 : n1 ≤ 9223372036854775807 := by have h3 := hp0.le; have h4 := hp0.cap; unfold maxLen at h4; omega
  have hmx1 : n2 ≤ 9223372036854775807 := by have h3 := hp1.le; have h4 := hp1.cap; unfold maxLen at h4; omega
  have ho0 := sl_okH hp0
  have ho1 := sl_okH hp1
  repeat' (first
    | ((apply al_none (t := 21); refine JL_o (OpR_callF en10 rfl (rwakes_r _)) rfl rfl ?_; rintro _ _ ⟨rfl, hE⟩; have hs := hs.ext hE))
    | ((apply al_call 11; refine JL_o (by exact OpR_callF en11 rfl (rlown_r _ a n c l (hl.st hs))) rfl rfl ?_; rintro _ _ ⟨qs, a5, c5, ⟨hqm, hqo⟩, rfl, hf⟩; rw [← hE0] at hqm; have hs := hs.fresh hf; have hql : qs.length ≤ 30 := (by have := congrArg List.length hqm; rw [List.length_map] at this; omega); (try simp only [List.cons_append, List.nil_append] at hs)))
    | ((apply al_call 12; refine JL_o (by exact OpR_callF en12 rfl (right15_r _ a5 qs.length c5 (qs.map meanQ) (slQ hs (by repeat (first | exact List.Mem.head _ | apply List.Mem.tail)) (by repeat (first | exact List.Mem.head _ | apply List.Mem.tail)) hqo) (by rw [hqm]; omega))) rfl rfl ?_; rintro _ _ ⟨rfl, hE⟩; rw [hqm, ← hbb]; have hs := hs.ext hE; (try simp only [List.cons_append, List.nil_append] at hs)))
    | (apply JL_nil)
    | ((apply JL_pure); (first
      | (apply as_move; exact OpR_move rfl is_rfl)
      | (apply as_assign; exact OpR_assign rfl is_rfl)
      | (apply as_unOp; exact OpR_not rfl is_rfl)
      | (apply as_build; exact OpR_build_arr rfl (by (simp only [bld, placesOf, splice, Value.cells, List.take_succ_cons, List.take_zero, List.drop_succ_cons, List.drop_zero, List.cons_append, List.nil_append, List.length_cons, List.length_nil, List.getElem?_cons_zero, List.getElem?_cons_succ, Option.map_some, List.append_nil, Nat.reduceAdd, Nat.reduceMul, Nat.zero_add, Nat.reduceLeDiff, and_self, if_true, List.toList_toArray, Nat.le_refl, Nat.zero_mul, Nat.one_mul]; first | done | rfl)) is_rfl)); first | (exact rfl; exact rfl) | exact rfl)
    | (apply J_seq)
    | (apply J_region)
    | (apply J_block)
    | (apply J_skip)
    | (apply aj_cond; refine J_cond_f rfl gb ?_))
  refine J_loopK (α := Nat × List QR × Option Addr × Nat) [(8, _), (29, _)] (fun g => [(7, .slice g.2.2.1 g.2.1.length g.2.2.2), (30, .int .i64 g.1)]) (fun g w' => St w NoF w' [TabQ g.2.2.1 g.2.1.length g.2.2.2 (g.2.1.map rawQ), OwnQ g.2.1] ∧ (∀ q ∈ g.2.1, okQ q) ∧ InvG bb (g.2.1.map meanQ) ∧ g.1 ≤ 2) (fun g => 2 - g.1) (0, qs, a5, c5) ⟨hs, hqo, ⟨by dsimp only; rw [hqm, hbb], by dsimp only; rw [hqm]; omega, by dsimp only; rw [hqm]; omega⟩, Nat.zero_le _⟩ (by repeat' (first | exact trivial | exact rfl | apply And.intro)) ?_
  rintro ⟨i, qs, a', c'⟩ w2 ⟨hs1, hqo, hinv, hile⟩ ih
  dsimp only at hs1 hqo hinv hile ih ⊢
  have hs : St w NoF w2 [_, _] := hs1
  have hcase : i = 0 ∨ i = 1 ∨ i = 2 := by omega
  rcases hcase with rfl | rfl | rfl
  · repeat' (first
      | (apply JL_nil)
      | ((apply JL_pure); (first
      | (apply as_move; exact OpR_move rfl is_rfl)
      | (apply as_assign; exact OpR_assign rfl is_rfl)
      | (apply as_binOp; exact OpR_ibin rfl rfl rfl is_rfl)
      | (apply as_b_len; exact OpR_len rfl is_rfl)
      | (apply as_index; exact OpR_index rfl rfl (by omega) (by omega) rfl is_rfl)); first | (exact rfl; exact rfl) | exact rfl)
      | (apply J_seq)
      | (apply J_region)
      | (apply J_block)
      | (apply J_skip)
      | (apply aj_cond; refine J_dec_t rfl ob ?_))
    refine J_loopK (α := Nat × List QR × Option Addr × Nat) [(8, _), (9, _), (29, _), (30, _), (34, _), (35, _)] (fun g => [(7, .slice g.2.2.1 g.2.1.length g.2.2.2), (36, .int .i64 g.1)]) (fun g w' => St w NoF w' [TabQ g.2.2.1 g.2.1.length g.2.2.2 (g.2.1.map rawQ), OwnQ g.2.1] ∧ (∀ q ∈ g.2.1, okQ q) ∧ InvG bb (g.2.1.map meanQ) ∧ g.1 ≤ n1) (fun g => n1 - g.1) (0, qs, a', c') ⟨hs, hqo, hinv, Nat.zero_le _⟩ (by repeat' (first | exact trivial | exact rfl | apply And.intro)) ?_
    rintro ⟨k, ps, a3, c3⟩ w3 ⟨hs1, hpo, hinv2, hk⟩ ih2
    dsimp only at hs1 hpo hinv2 hk ih2 ⊢
    have hs : St w NoF w3 [_, _] := hs1
    by_cases hlt : k < n1
    · obtain ⟨b, o, rfl⟩ := hp0.sl.addr (by omega)
      have hs : St w NoF w3 [_, _] := hs1
      have hv : p0[k]? = some (p0[k]'(by omega)) := List.getElem?_eq_getElem (by omega)
      obtain ⟨x, hxd⟩ : ∃ x, x = p0[k]'(by omega) := ⟨_, rfl⟩
      rw [← hxd] at hv
      have hxo := ho0 x (List.mem_of_getElem? hv)
      by_cases h8 : (k : Int) = 8
      · repeat' (first
          | (apply JL_nil)
          | ((apply JL_pure); (first
      | (apply as_load; exact OpR_load_el (hp0.st hs) hv rfl rfl is_rfl)
      | (apply as_move; exact OpR_move rfl is_rfl)
      | (apply as_assign; exact OpR_assign rfl is_rfl)
      | (apply as_add; exact OpR_addn rfl rfl (by omega) (by first | (simp only [Int.reduceAdd]; exact rfl) | exact rfl) is_rfl)
      | (apply as_binOp; exact OpR_ibin rfl rfl rfl is_rfl)
      | (apply as_indexAddr; exact OpR_indexAddr rfl rfl (by omega) (by omega) is_rfl)); first | (exact rfl; exact rfl) | exact rfl)
          | (apply J_seq)
          | (apply J_region)
          | (apply J_block)
          | (apply J_inBlock)
          | (apply aj_exit; refine J_exit rfl ?_)
          | (apply J_skip)
          | (apply al_none (t := 12); refine JL_o (by apply as_alloc; exact OpR_alloc' hs) rfl rfl ?_; rintro _ _ ⟨b12, rfl, hb12, hs, hE⟩)
          | (apply al_unit; refine JL_u (by apply as_store; exact OpR_store' hs rfl rfl rfl) rfl ?_; rintro _ _ ⟨hs, hF⟩)
          | (apply aj_cond; refine J_dec_t rfl ob ?_))
        refine ih (1, ps, a3, c3) _ _ ⟨hs.sel [1, 2] (by decide), hpo, hinv2, by show 1 ≤ 2; decide⟩ (by show 2 - 1 < 2 - 0; decide) (by repeat' (first | exact trivial | exact rfl | apply And.intro))
      · obtain ⟨m, hm⟩ : ∃ m, m = ps.map meanQ := ⟨_, rfl⟩
        have hml : ps.length = m.length := by rw [hm, List.length_map]
        have hmm : decide (m = m) = true := decide_eq_true rfl
        rw [← hm] at hinv2
        obtain ⟨hir, hil, hit⟩ := hinv2
        have hml2 : m.length ≤ 40000 := hil
        have hall := allH_len m
        obtain ⟨A, hA⟩ : ∃ A, A = allH m := ⟨_, rfl⟩
        have hAo : ∀ y ∈ A, okH y := by rw [hA]; exact allH_ok (by rw [hm]; intro r hr; obtain ⟨q, hq, rfl⟩ := List.mem_map.1 hr; exact ⟨(hpo q hq).1, (hpo q hq).2.2⟩)
        have hAl : A.length ≤ 40000 := by rw [hA]; omega
        cases bb with
        | false =>
          obtain ⟨mb, hmay⟩ : ∃ mb, mayH x = mb := ⟨_, rfl⟩
          have hz : stepM true (m, 0) x = ([], 250) := sput_no (by unfold putC; rw [if_neg (by rw [hir]; decide)]) (by decide)
          have hzt : tot [] ≤ 1000000 := by rw [tot_nil']; decide
          have hzl : ∀ q : List QR, q.map meanQ = [] → q.length ≤ 1000000 ∧ True := fun q hq => ⟨by have := congrArg List.length hq; rw [List.length_map] at this; rw [this]; decide, trivial⟩
          repeat' (first
            | ((apply al_call 13; refine JL_o (by exact OpR_callF en13 rfl (rlclone_r _ a3 ps.length c3 (ps.map meanQ) (slQ hs (by repeat (first | exact List.Mem.head _ | apply List.Mem.tail)) (by repeat (first | exact List.Mem.head _ | apply List.Mem.tail)) hpo) (by omega) (by rw [← hm]; omega))) rfl rfl ?_; rintro _ _ ⟨q1, aw, cw, ⟨hm1, ho1'⟩, rfl, hf⟩; rw [← hm] at hm1; have hs := hs.fresh hf; (try simp only [List.cons_append, List.nil_append] at hs)))
            | ((apply al_call 15; refine JL_o (by exact OpR_callF en15 rfl (rput_u _ a3 ps.length c3 (ps.map meanQ) x (slQ hs (by repeat (first | exact List.Mem.head _ | apply List.Mem.tail)) (by repeat (first | exact List.Mem.head _ | apply List.Mem.tail)) hpo) hxo (by omega) (by rw [← hm]; omega))) rfl rfl ?_; rintro _ _ ⟨q4, a4, c4, ⟨hm4, ho4⟩, rfl, hf⟩; rw [← hm, hz] at hm4 ⊢; have hs := hs.fresh hf; (try simp only [List.cons_append, List.nil_append] at hs)))
            | ((apply al_call 17; refine JL_o (by exact OpR_callF en17 rfl (has15_r _ none 0 0 [] x (slNil _))) rfl rfl ?_; rintro _ _ ⟨rfl, hE⟩; have hs := hs.ext hE; (try simp only [List.cons_append, List.nil_append] at hs)))
            | ((apply al_callg 22; refine JL_o_on rfl gb (by exact OpR_callF en22 rfl (of15_r _ none 0 0 [] (slNil _) (by decide))) rfl rfl ?_; rintro _ _ ⟨q9, a9, c9, ⟨hm9, ho9⟩, rfl, hf⟩; have hs := hs.fresh hf; (try simp only [List.cons_append, List.nil_append] at hs)))
            | ((apply al_callg 21; refine JL_o_on rfl gb (by exact OpR_callF en21 rfl (Same15_r _ a4 a9 q4.length c4 q9.length c9 (q4.map meanQ) (q9.map meanQ) (slQ hs (by repeat (first | exact List.Mem.head _ | apply List.Mem.tail)) (by repeat (first | exact List.Mem.head _ | apply List.Mem.tail)) ho4) (slQ hs (by repeat (first | exact List.Mem.head _ | apply List.Mem.tail)) (by repeat (first | exact List.Mem.head _ | apply List.Mem.tail)) ho9))) rfl rfl ?_; rintro _ _ ⟨rfl, hE⟩; rw [show decide (q4.map meanQ = q9.map meanQ) = true from decide_eq_true (hm4.trans (of_nil.symm.trans hm9.symm))]; have hs := hs.ext hE; (try simp only [List.cons_append, List.nil_append] at hs)))
            | ((apply al_call 13; refine JL_o (by exact OpR_callF en13 rfl (rlclone_r _ a4 q4.length c4 (q4.map meanQ) (slQ hs (by repeat (first | exact List.Mem.head _ | apply List.Mem.tail)) (by repeat (first | exact List.Mem.head _ | apply List.Mem.tail)) ho4) (hzl _ hm4).1 (by rw [hm4]; exact hzt))) rfl rfl ?_; rintro _ _ ⟨q5, a5, c5, ⟨hm5, ho5⟩, rfl, hf⟩; have hs := hs.fresh hf; (try simp only [List.cons_append, List.nil_append] at hs)))
            | ((apply al_none (t := 111); have hs2 : St w NoF _ ([TabQ a4 q4.length c4 (q4.map rawQ), OwnQ q4] ++ [_, _, _, _, _, _, _]) := hs.sel [4, 5, 0, 1, 6, 7, 8, 9, 10] (by decide); refine JL_o (OpR_callF en23 rfl (rlspoil_r _ a4 c4 q4 (St.held (A := [_, _]) hs2) ho4 (hzl _ hm4).1 (tot_each (by rw [hm4]; exact hzt)))) rfl rfl ?_; rintro _ _ ht; have hs := St.take (A := [_, _]) (A' := []) hs2 ht; simp only [List.nil_append] at hs))
            | ((apply al_call 21; refine JL_o (by exact OpR_callF en21 rfl (Same15_r _ a3 aw ps.length c3 q1.length cw (ps.map meanQ) (q1.map meanQ) (slQ hs (by repeat (first | exact List.Mem.head _ | apply List.Mem.tail)) (by repeat (first | exact List.Mem.head _ | apply List.Mem.tail)) hpo) (slQ hs (by repeat (first | exact List.Mem.head _ | apply List.Mem.tail)) (by repeat (first | exact List.Mem.head _ | apply List.Mem.tail)) ho1'))) rfl rfl ?_; rintro _ _ ⟨rfl, hE⟩; rw [hm1, ← hm, hmm]; have hs := hs.ext hE; (try simp only [List.cons_append, List.nil_append] at hs)))
            | (apply JL_nil)
            | ((first | (apply JL_pure) | (apply JL_pure_on; exact rfl; exact gb)); (first
      | (apply as_load; first | exact OpR_load_agg' hs rfl is_rfl | exact OpR_load_el (hp0.st hs) hv rfl rfl is_rfl)
      | (apply as_move; exact OpR_move rfl is_rfl)
      | (apply as_assign; exact OpR_assign rfl is_rfl)
      | (apply as_add; exact OpR_addn rfl rfl (by omega) (by first | (simp only [Int.reduceAdd]; exact rfl) | exact rfl) is_rfl)
      | (apply as_binOp; exact OpR_ibin rfl rfl rfl is_rfl)
      | (apply as_unOp; exact OpR_not rfl is_rfl)
      | (apply as_pick; exact OpR_pick_f rfl gb rfl is_rfl)
      | (apply as_extract; exact OpR_extract rfl rfl is_rfl)
      | (apply as_indexAddr; exact OpR_indexAddr rfl rfl (by omega) (by omega) is_rfl)); first | (exact rfl; exact rfl) | exact rfl)
            | (apply J_seq)
            | (apply J_region)
            | (apply J_block)
            | (apply J_inBlock)
            | (apply J_skip)
            | (apply al_none (t := 12); refine JL_o (by apply as_alloc; exact OpR_alloc' hs) rfl rfl ?_; rintro _ _ ⟨b12, rfl, hb12, hs, hE⟩)
            | (apply al_unit; refine JL_u (by apply as_store; exact OpR_store' hs rfl rfl rfl) rfl ?_; rintro _ _ ⟨hs, hF⟩)
            | (apply aj_cond; first | refine J_dec_t rfl ob ?_ | refine J_dec_f rfl ob ?_ | refine J_cond_t rfl gb ?_ | refine J_cond_f rfl gb ?_))
          refine ih2 (k + 1, ps, a3, c3) _ _ ⟨hs.sel [5, 6] (by decide), hpo, by dsimp only; rw [← hm]; exact ⟨hir, hil, hit⟩, hlt⟩ (by show n1 - (k + 1) < n1 - k; omega) (by repeat' (first | exact trivial | exact rfl | apply And.intro))
        | true =>
          cases hmay : mayH x with
          | false =>
            have hz : stepM true (m, 0) x = ([], 2) := sput_no (by unfold putC; rw [if_pos hir, if_neg (by rw [hmay]; decide)]) (by decide)
            have hzt : tot [] ≤ 1000000 := by rw [tot_nil']; decide
            have hzl : ∀ q : List QR, q.map meanQ = [] → q.length ≤ 1000000 ∧ True := fun q hq => ⟨by have := congrArg List.length hq; rw [List.length_map] at this; rw [this]; decide, trivial⟩
            repeat' (first
              | ((apply al_call 13; refine JL_o (by exact OpR_callF en13 rfl (rlclone_r _ a3 ps.length c3 (ps.map meanQ) (slQ hs (by repeat (first | exact List.Mem.head _ | apply List.Mem.tail)) (by repeat (first | exact List.Mem.head _ | apply List.Mem.tail)) hpo) (by omega) (by rw [← hm]; omega))) rfl rfl ?_; rintro _ _ ⟨q1, aw, cw, ⟨hm1, ho1'⟩, rfl, hf⟩; rw [← hm] at hm1; have hs := hs.fresh hf; (try simp only [List.cons_append, List.nil_append] at hs)))
              | ((apply al_call 14; refine JL_o (by exact OpR_callF en14 rfl (all15_r _ a3 ps.length c3 (ps.map meanQ) (slQ hs (by repeat (first | exact List.Mem.head _ | apply List.Mem.tail)) (by repeat (first | exact List.Mem.head _ | apply List.Mem.tail)) hpo) (by rw [← hm]; omega))) rfl rfl ?_; rintro _ _ ⟨aa, ca, rfl, hf⟩; rw [← hm, ← hA] at hf ⊢; have hs := hs.fresh hf; (try simp only [List.cons_append, List.nil_append] at hs)))
              | ((apply al_call 15; refine JL_o (by exact OpR_callF en15 rfl (rput_u _ a3 ps.length c3 (ps.map meanQ) x (slQ hs (by repeat (first | exact List.Mem.head _ | apply List.Mem.tail)) (by repeat (first | exact List.Mem.head _ | apply List.Mem.tail)) hpo) hxo (by omega) (by rw [← hm]; omega))) rfl rfl ?_; rintro _ _ ⟨q4, a4, c4, ⟨hm4, ho4⟩, rfl, hf⟩; rw [← hm, hz] at hm4 ⊢; have hs := hs.fresh hf; (try simp only [List.cons_append, List.nil_append] at hs)))
              | ((apply al_call 17; refine JL_o (by exact OpR_callF en17 rfl (has15_r _ aa A.length ca A x (slH hs (by repeat (first | exact List.Mem.head _ | apply List.Mem.tail)) hAo))) rfl rfl ?_; rintro _ _ ⟨rfl, hE⟩; have hs := hs.ext hE; (try simp only [List.cons_append, List.nil_append] at hs)))
              | ((apply al_call 18; refine JL_o (by exact OpR_callF en18 rfl (may15_r _ x hxo)) rfl rfl ?_; rintro _ _ ⟨rfl, hE⟩; rw [hmay]; have hs := hs.ext hE; (try simp only [List.cons_append, List.nil_append] at hs)))
              | ((apply al_callg 22; refine JL_o_on rfl gb (by exact OpR_callF en22 rfl (of15_r _ none 0 0 [] (slNil _) (by decide))) rfl rfl ?_; rintro _ _ ⟨q9, a9, c9, ⟨hm9, ho9⟩, rfl, hf⟩; have hs := hs.fresh hf; (try simp only [List.cons_append, List.nil_append] at hs)))
              | ((apply al_callg 21; refine JL_o_on rfl gb (by exact OpR_callF en21 rfl (Same15_r _ a4 a9 q4.length c4 q9.length c9 (q4.map meanQ) (q9.map meanQ) (slQ hs (by repeat (first | exact List.Mem.head _ | apply List.Mem.tail)) (by repeat (first | exact List.Mem.head _ | apply List.Mem.tail)) ho4) (slQ hs (by repeat (first | exact List.Mem.head _ | apply List.Mem.tail)) (by repeat (first | exact List.Mem.head _ | apply List.Mem.tail)) ho9))) rfl rfl ?_; rintro _ _ ⟨rfl, hE⟩; rw [show decide (q4.map meanQ = q9.map meanQ) = true from decide_eq_true (hm4.trans (of_nil.symm.trans hm9.symm))]; have hs := hs.ext hE; (try simp only [List.cons_append, List.nil_append] at hs)))
              | ((apply al_call 13; refine JL_o (by exact OpR_callF en13 rfl (rlclone_r _ a4 q4.length c4 (q4.map meanQ) (slQ hs (by repeat (first | exact List.Mem.head _ | apply List.Mem.tail)) (by repeat (first | exact List.Mem.head _ | apply List.Mem.tail)) ho4) (hzl _ hm4).1 (by rw [hm4]; exact hzt))) rfl rfl ?_; rintro _ _ ⟨q5, a5, c5, ⟨hm5, ho5⟩, rfl, hf⟩; have hs := hs.fresh hf; (try simp only [List.cons_append, List.nil_append] at hs)))
              | ((apply al_none (t := 111); have hs2 : St w NoF _ ([TabQ a4 q4.length c4 (q4.map rawQ), OwnQ q4] ++ [_, _, _, _, _, _, _]) := hs.sel [4, 5, 0, 1, 7, 8, 9, 10, 11] (by decide); refine JL_o (OpR_callF en23 rfl (rlspoil_r _ a4 c4 q4 (St.held (A := [_, _]) hs2) ho4 (hzl _ hm4).1 (tot_each (by rw [hm4]; exact hzt)))) rfl rfl ?_; rintro _ _ ht; have hs := St.take (A := [_, _]) (A' := []) hs2 ht; simp only [List.nil_append] at hs))
              | ((apply al_call 21; refine JL_o (by exact OpR_callF en21 rfl (Same15_r _ a3 aw ps.length c3 q1.length cw (ps.map meanQ) (q1.map meanQ) (slQ hs (by repeat (first | exact List.Mem.head _ | apply List.Mem.tail)) (by repeat (first | exact List.Mem.head _ | apply List.Mem.tail)) hpo) (slQ hs (by repeat (first | exact List.Mem.head _ | apply List.Mem.tail)) (by repeat (first | exact List.Mem.head _ | apply List.Mem.tail)) ho1'))) rfl rfl ?_; rintro _ _ ⟨rfl, hE⟩; rw [hm1, ← hm, hmm]; have hs := hs.ext hE; (try simp only [List.cons_append, List.nil_append] at hs)))
              | (apply JL_nil)
              | ((first | (apply JL_pure) | (apply JL_pure_on; exact rfl; exact gb)); (first
      | (apply as_load; first | exact OpR_load_agg' hs rfl is_rfl | exact OpR_load_el (hp0.st hs) hv rfl rfl is_rfl)
      | (apply as_move; exact OpR_move rfl is_rfl)
      | (apply as_assign; exact OpR_assign rfl is_rfl)
      | (apply as_add; exact OpR_addn rfl rfl (by omega) (by first | (simp only [Int.reduceAdd]; exact rfl) | exact rfl) is_rfl)
      | (apply as_binOp; exact OpR_ibin rfl rfl rfl is_rfl)
      | (apply as_unOp; exact OpR_not rfl is_rfl)
      | (apply as_pick; exact OpR_pick_f rfl gb rfl is_rfl)
      | (apply as_extract; exact OpR_extract rfl rfl is_rfl)
      | (apply as_indexAddr; exact OpR_indexAddr rfl rfl (by omega) (by omega) is_rfl)); first | (exact rfl; exact rfl) | exact rfl)
              | (apply J_seq)
              | (apply J_region)
              | (apply J_block)
              | (apply J_inBlock)
              | (apply J_skip)
              | (apply al_none (t := 12); refine JL_o (by apply as_alloc; exact OpR_alloc' hs) rfl rfl ?_; rintro _ _ ⟨b12, rfl, hb12, hs, hE⟩)
              | (apply al_unit; refine JL_u (by apply as_store; exact OpR_store' hs rfl rfl rfl) rfl ?_; rintro _ _ ⟨hs, hF⟩)
              | (apply aj_cond; first | refine J_dec_t rfl ob ?_ | refine J_dec_f rfl ob ?_ | refine J_cond_t rfl gb ?_ | refine J_cond_f rfl gb ?_))
            refine ih2 (k + 1, ps, a3, c3) _ _ ⟨hs.sel [5, 6] (by decide), hpo, by dsimp only; rw [← hm]; exact ⟨hir, hil, hit⟩, hlt⟩ (by show n1 - (k + 1) < n1 - k; omega) (by repeat' (first | exact trivial | exact rfl | apply And.intro))
          | true =>
            by_cases hin : x ∈ A
            · have hind : decide (x ∈ A) = true := decide_eq_true hin
              have hz : stepM true (m, 0) x = ([], 5) := sput_no (by unfold putC; rw [if_pos hir, if_pos hmay, if_pos (by rw [← hA]; exact hin)]) (by decide)
              have hzt : tot [] ≤ 1000000 := by rw [tot_nil']; decide
              have hzl : ∀ q : List QR, q.map meanQ = [] → q.length ≤ 1000000 ∧ True := fun q hq => ⟨by have := congrArg List.length hq; rw [List.length_map] at this; rw [this]; decide, trivial⟩
              repeat' (first
                | ((apply al_call 13; refine JL_o (by exact OpR_callF en13 rfl (rlclone_r _ a3 ps.length c3 (ps.map meanQ) (slQ hs (by repeat (first | exact List.Mem.head _ | apply List.Mem.tail)) (by repeat (first | exact List.Mem.head _ | apply List.Mem.tail)) hpo) (by omega) (by rw [← hm]; omega))) rfl rfl ?_; rintro _ _ ⟨q1, aw, cw, ⟨hm1, ho1'⟩, rfl, hf⟩; rw [← hm] at hm1; have hs := hs.fresh hf; (try simp only [List.cons_append, List.nil_append] at hs)))
                | ((apply al_call 14; refine JL_o (by exact OpR_callF en14 rfl (all15_r _ a3 ps.length c3 (ps.map meanQ) (slQ hs (by repeat (first | exact List.Mem.head _ | apply List.Mem.tail)) (by repeat (first | exact List.Mem.head _ | apply List.Mem.tail)) hpo) (by rw [← hm]; omega))) rfl rfl ?_; rintro _ _ ⟨aa, ca, rfl, hf⟩; rw [← hm, ← hA] at hf ⊢; have hs := hs.fresh hf; (try simp only [List.cons_append, List.nil_append] at hs)))
                | ((apply al_call 15; refine JL_o (by exact OpR_callF en15 rfl (rput_u _ a3 ps.length c3 (ps.map meanQ) x (slQ hs (by repeat (first | exact List.Mem.head _ | apply List.Mem.tail)) (by repeat (first | exact List.Mem.head _ | apply List.Mem.tail)) hpo) hxo (by omega) (by rw [← hm]; omega))) rfl rfl ?_; rintro _ _ ⟨q4, a4, c4, ⟨hm4, ho4⟩, rfl, hf⟩; rw [← hm, hz] at hm4 ⊢; have hs := hs.fresh hf; (try simp only [List.cons_append, List.nil_append] at hs)))
                | ((apply al_call 17; refine JL_o (by exact OpR_callF en17 rfl (has15_r _ aa A.length ca A x (slH hs (by repeat (first | exact List.Mem.head _ | apply List.Mem.tail)) hAo))) rfl rfl ?_; rintro _ _ ⟨rfl, hE⟩; rw [hind]; have hs := hs.ext hE; (try simp only [List.cons_append, List.nil_append] at hs)))
                | ((apply al_call 18; refine JL_o (by exact OpR_callF en18 rfl (may15_r _ x hxo)) rfl rfl ?_; rintro _ _ ⟨rfl, hE⟩; rw [hmay]; have hs := hs.ext hE; (try simp only [List.cons_append, List.nil_append] at hs)))
                | ((apply al_callg 22; refine JL_o_on rfl gb (by exact OpR_callF en22 rfl (of15_r _ none 0 0 [] (slNil _) (by decide))) rfl rfl ?_; rintro _ _ ⟨q9, a9, c9, ⟨hm9, ho9⟩, rfl, hf⟩; have hs := hs.fresh hf; (try simp only [List.cons_append, List.nil_append] at hs)))
                | ((apply al_callg 21; refine JL_o_on rfl gb (by exact OpR_callF en21 rfl (Same15_r _ a4 a9 q4.length c4 q9.length c9 (q4.map meanQ) (q9.map meanQ) (slQ hs (by repeat (first | exact List.Mem.head _ | apply List.Mem.tail)) (by repeat (first | exact List.Mem.head _ | apply List.Mem.tail)) ho4) (slQ hs (by repeat (first | exact List.Mem.head _ | apply List.Mem.tail)) (by repeat (first | exact List.Mem.head _ | apply List.Mem.tail)) ho9))) rfl rfl ?_; rintro _ _ ⟨rfl, hE⟩; rw [show decide (q4.map meanQ = q9.map meanQ) = true from decide_eq_true (hm4.trans (of_nil.symm.trans hm9.symm))]; have hs := hs.ext hE; (try simp only [List.cons_append, List.nil_append] at hs)))
                | ((apply al_call 13; refine JL_o (by exact OpR_callF en13 rfl (rlclone_r _ a4 q4.length c4 (q4.map meanQ) (slQ hs (by repeat (first | exact List.Mem.head _ | apply List.Mem.tail)) (by repeat (first | exact List.Mem.head _ | apply List.Mem.tail)) ho4) (hzl _ hm4).1 (by rw [hm4]; exact hzt))) rfl rfl ?_; rintro _ _ ⟨q5, a5, c5, ⟨hm5, ho5⟩, rfl, hf⟩; have hs := hs.fresh hf; (try simp only [List.cons_append, List.nil_append] at hs)))
                | ((apply al_none (t := 111); have hs2 : St w NoF _ ([TabQ a4 q4.length c4 (q4.map rawQ), OwnQ q4] ++ [_, _, _, _, _, _, _]) := hs.sel [4, 5, 0, 1, 7, 8, 9, 10, 11] (by decide); refine JL_o (OpR_callF en23 rfl (rlspoil_r _ a4 c4 q4 (St.held (A := [_, _]) hs2) ho4 (hzl _ hm4).1 (tot_each (by rw [hm4]; exact hzt)))) rfl rfl ?_; rintro _ _ ht; have hs := St.take (A := [_, _]) (A' := []) hs2 ht; simp only [List.nil_append] at hs))
                | ((apply al_call 21; refine JL_o (by exact OpR_callF en21 rfl (Same15_r _ a3 aw ps.length c3 q1.length cw (ps.map meanQ) (q1.map meanQ) (slQ hs (by repeat (first | exact List.Mem.head _ | apply List.Mem.tail)) (by repeat (first | exact List.Mem.head _ | apply List.Mem.tail)) hpo) (slQ hs (by repeat (first | exact List.Mem.head _ | apply List.Mem.tail)) (by repeat (first | exact List.Mem.head _ | apply List.Mem.tail)) ho1'))) rfl rfl ?_; rintro _ _ ⟨rfl, hE⟩; rw [hm1, ← hm, hmm]; have hs := hs.ext hE; (try simp only [List.cons_append, List.nil_append] at hs)))
                | (apply JL_nil)
                | ((first | (apply JL_pure) | (apply JL_pure_on; exact rfl; exact gb)); (first
      | (apply as_load; first | exact OpR_load_agg' hs rfl is_rfl | exact OpR_load_el (hp0.st hs) hv rfl rfl is_rfl)
      | (apply as_move; exact OpR_move rfl is_rfl)
      | (apply as_assign; exact OpR_assign rfl is_rfl)
      | (apply as_add; exact OpR_addn rfl rfl (by omega) (by first | (simp only [Int.reduceAdd]; exact rfl) | exact rfl) is_rfl)
      | (apply as_binOp; exact OpR_ibin rfl rfl rfl is_rfl)
      | (apply as_unOp; exact OpR_not rfl is_rfl)
      | (apply as_pick; first | exact OpR_pick_t rfl gb rfl is_rfl | exact OpR_pick_f rfl gb rfl is_rfl)
      | (apply as_extract; exact OpR_extract rfl rfl is_rfl)
      | (apply as_indexAddr; exact OpR_indexAddr rfl rfl (by omega) (by omega) is_rfl)); first | (exact rfl; exact rfl) | exact rfl)
                | (apply J_seq)
                | (apply J_region)
                | (apply J_block)
                | (apply J_inBlock)
                | (apply J_skip)
                | (apply al_none (t := 12); refine JL_o (by apply as_alloc; exact OpR_alloc' hs) rfl rfl ?_; rintro _ _ ⟨b12, rfl, hb12, hs, hE⟩)
                | (apply al_unit; refine JL_u (by apply as_store; exact OpR_store' hs rfl rfl rfl) rfl ?_; rintro _ _ ⟨hs, hF⟩)
                | (apply aj_cond; first | refine J_dec_t rfl ob ?_ | refine J_dec_f rfl ob ?_ | refine J_cond_t rfl gb ?_ | refine J_cond_f rfl gb ?_))
              refine ih2 (k + 1, ps, a3, c3) _ _ ⟨hs.sel [5, 6] (by decide), hpo, by dsimp only; rw [← hm]; exact ⟨hir, hil, hit⟩, hlt⟩ (by show n1 - (k + 1) < n1 - k; omega) (by repeat' (first | exact trivial | exact rfl | apply And.intro))
            · have hind : decide (x ∈ A) = false := decide_eq_false hin
              by_cases h20 : A.length = 20000
              · have h20' : (A.length : Int) = 20000 := by omega
                have hz : stepM true (m, 0) x = ([], 6) := sput_no (by unfold putC; rw [if_pos hir, if_pos hmay, if_neg (by rw [← hA]; exact hin), if_pos (by rw [← hA]; exact h20)]) (by decide)
                have hzt : tot [] ≤ 1000000 := by rw [tot_nil']; decide
                have hzl : ∀ q : List QR, q.map meanQ = [] → q.length ≤ 1000000 ∧ True := fun q hq => ⟨by have := congrArg List.length hq; rw [List.length_map] at this; rw [this]; decide, trivial⟩
                repeat' (first
                  | ((apply al_call 13; refine JL_o (by exact OpR_callF en13 rfl (rlclone_r _ a3 ps.length c3 (ps.map meanQ) (slQ hs (by repeat (first | exact List.Mem.head _ | apply List.Mem.tail)) (by repeat (first | exact List.Mem.head _ | apply List.Mem.tail)) hpo) (by omega) (by rw [← hm]; omega))) rfl rfl ?_; rintro _ _ ⟨q1, aw, cw, ⟨hm1, ho1'⟩, rfl, hf⟩; rw [← hm] at hm1; have hs := hs.fresh hf; (try simp only [List.cons_append, List.nil_append] at hs)))
                  | ((apply al_call 14; refine JL_o (by exact OpR_callF en14 rfl (all15_r _ a3 ps.length c3 (ps.map meanQ) (slQ hs (by repeat (first | exact List.Mem.head _ | apply List.Mem.tail)) (by repeat (first | exact List.Mem.head _ | apply List.Mem.tail)) hpo) (by rw [← hm]; omega))) rfl rfl ?_; rintro _ _ ⟨aa, ca, rfl, hf⟩; rw [← hm, ← hA] at hf ⊢; have hs := hs.fresh hf; (try simp only [List.cons_append, List.nil_append] at hs)))
                  | ((apply al_call 15; refine JL_o (by exact OpR_callF en15 rfl (rput_u _ a3 ps.length c3 (ps.map meanQ) x (slQ hs (by repeat (first | exact List.Mem.head _ | apply List.Mem.tail)) (by repeat (first | exact List.Mem.head _ | apply List.Mem.tail)) hpo) hxo (by omega) (by rw [← hm]; omega))) rfl rfl ?_; rintro _ _ ⟨q4, a4, c4, ⟨hm4, ho4⟩, rfl, hf⟩; rw [← hm, hz] at hm4 ⊢; have hs := hs.fresh hf; (try simp only [List.cons_append, List.nil_append] at hs)))
                  | ((apply al_call 17; refine JL_o (by exact OpR_callF en17 rfl (has15_r _ aa A.length ca A x (slH hs (by repeat (first | exact List.Mem.head _ | apply List.Mem.tail)) hAo))) rfl rfl ?_; rintro _ _ ⟨rfl, hE⟩; rw [hind]; have hs := hs.ext hE; (try simp only [List.cons_append, List.nil_append] at hs)))
                  | ((apply al_call 18; refine JL_o (by exact OpR_callF en18 rfl (may15_r _ x hxo)) rfl rfl ?_; rintro _ _ ⟨rfl, hE⟩; rw [hmay]; have hs := hs.ext hE; (try simp only [List.cons_append, List.nil_append] at hs)))
                  | ((apply al_callg 22; refine JL_o_on rfl gb (by exact OpR_callF en22 rfl (of15_r _ none 0 0 [] (slNil _) (by decide))) rfl rfl ?_; rintro _ _ ⟨q9, a9, c9, ⟨hm9, ho9⟩, rfl, hf⟩; have hs := hs.fresh hf; (try simp only [List.cons_append, List.nil_append] at hs)))
                  | ((apply al_callg 21; refine JL_o_on rfl gb (by exact OpR_callF en21 rfl (Same15_r _ a4 a9 q4.length c4 q9.length c9 (q4.map meanQ) (q9.map meanQ) (slQ hs (by repeat (first | exact List.Mem.head _ | apply List.Mem.tail)) (by repeat (first | exact List.Mem.head _ | apply List.Mem.tail)) ho4) (slQ hs (by repeat (first | exact List.Mem.head _ | apply List.Mem.tail)) (by repeat (first | exact List.Mem.head _ | apply List.Mem.tail)) ho9))) rfl rfl ?_; rintro _ _ ⟨rfl, hE⟩; rw [show decide (q4.map meanQ = q9.map meanQ) = true from decide_eq_true (hm4.trans (of_nil.symm.trans hm9.symm))]; have hs := hs.ext hE; (try simp only [List.cons_append, List.nil_append] at hs)))
                  | ((apply al_call 13; refine JL_o (by exact OpR_callF en13 rfl (rlclone_r _ a4 q4.length c4 (q4.map meanQ) (slQ hs (by repeat (first | exact List.Mem.head _ | apply List.Mem.tail)) (by repeat (first | exact List.Mem.head _ | apply List.Mem.tail)) ho4) (hzl _ hm4).1 (by rw [hm4]; exact hzt))) rfl rfl ?_; rintro _ _ ⟨q5, a5, c5, ⟨hm5, ho5⟩, rfl, hf⟩; have hs := hs.fresh hf; (try simp only [List.cons_append, List.nil_append] at hs)))
                  | ((apply al_none (t := 111); have hs2 : St w NoF _ ([TabQ a4 q4.length c4 (q4.map rawQ), OwnQ q4] ++ [_, _, _, _, _, _, _]) := hs.sel [4, 5, 0, 1, 7, 8, 9, 10, 11] (by decide); refine JL_o (OpR_callF en23 rfl (rlspoil_r _ a4 c4 q4 (St.held (A := [_, _]) hs2) ho4 (hzl _ hm4).1 (tot_each (by rw [hm4]; exact hzt)))) rfl rfl ?_; rintro _ _ ht; have hs := St.take (A := [_, _]) (A' := []) hs2 ht; simp only [List.nil_append] at hs))
                  | ((apply al_call 21; refine JL_o (by exact OpR_callF en21 rfl (Same15_r _ a3 aw ps.length c3 q1.length cw (ps.map meanQ) (q1.map meanQ) (slQ hs (by repeat (first | exact List.Mem.head _ | apply List.Mem.tail)) (by repeat (first | exact List.Mem.head _ | apply List.Mem.tail)) hpo) (slQ hs (by repeat (first | exact List.Mem.head _ | apply List.Mem.tail)) (by repeat (first | exact List.Mem.head _ | apply List.Mem.tail)) ho1'))) rfl rfl ?_; rintro _ _ ⟨rfl, hE⟩; rw [hm1, ← hm, hmm]; have hs := hs.ext hE; (try simp only [List.cons_append, List.nil_append] at hs)))
                  | (apply JL_nil)
                  | ((first | (apply JL_pure) | (apply JL_pure_on; exact rfl; exact gb)); (first
      | (apply as_load; first | exact OpR_load_agg' hs rfl is_rfl | exact OpR_load_el (hp0.st hs) hv rfl rfl is_rfl)
      | (apply as_move; exact OpR_move rfl is_rfl)
      | (apply as_assign; exact OpR_assign rfl is_rfl)
      | (apply as_add; exact OpR_addn rfl rfl (by omega) (by first | (simp only [Int.reduceAdd]; exact rfl) | exact rfl) is_rfl)
      | (apply as_binOp; exact OpR_ibin rfl rfl rfl is_rfl)
      | (apply as_unOp; exact OpR_not rfl is_rfl)
      | (apply as_pick; first | exact OpR_pick_t rfl gb rfl is_rfl | exact OpR_pick_f rfl gb rfl is_rfl)
      | (apply as_b_len; exact OpR_len rfl is_rfl)
      | (apply as_extract; exact OpR_extract rfl rfl is_rfl)
      | (apply as_indexAddr; exact OpR_indexAddr rfl rfl (by omega) (by omega) is_rfl)); first | (exact rfl; exact rfl) | exact rfl)
                  | (apply J_seq)
                  | (apply J_region)
                  | (apply J_block)
                  | (apply J_inBlock)
                  | (apply J_skip)
                  | (apply al_none (t := 12); refine JL_o (by apply as_alloc; exact OpR_alloc' hs) rfl rfl ?_; rintro _ _ ⟨b12, rfl, hb12, hs, hE⟩)
                  | (apply al_unit; refine JL_u (by apply as_store; exact OpR_store' hs rfl rfl rfl) rfl ?_; rintro _ _ ⟨hs, hF⟩)
                  | (apply aj_cond; first | refine J_dec_t rfl ob ?_ | refine J_dec_f rfl ob ?_ | refine J_cond_t rfl gb ?_ | refine J_cond_f rfl gb ?_))
                refine ih2 (k + 1, ps, a3, c3) _ _ ⟨hs.sel [5, 6] (by decide), hpo, by dsimp only; rw [← hm]; exact ⟨hir, hil, hit⟩, hlt⟩ (by show n1 - (k + 1) < n1 - k; omega) (by repeat' (first | exact trivial | exact rfl | apply And.intro))
              · have h20' : ¬ (A.length : Int) = 20000 := by omega
                have hp : putC m x = 0 := by unfold putC; rw [if_pos hir, if_pos hmay]; rw [if_neg (by rw [← hA]; exact hin), if_neg (by rw [← hA]; exact h20)]
                obtain ⟨hzr, hza⟩ := put_right hp
                rw [← hA] at hzr hza
                have hz : stepM true (m, 0) x = (ofH (withH A x), 0) := by rw [hA]; exact stepP_of hp
                have hzi := invG_right hzr
                have hzt : tot (ofH (withH A x)) ≤ 1000000 := Nat.le_trans hzi.2.2 (by decide)
                have hzl : ∀ q : List QR, q.map meanQ = ofH (withH A x) → q.length ≤ 1000000 ∧ True := fun q hq => ⟨by have := congrArg List.length hq; rw [List.length_map] at this; rw [this]; exact Nat.le_trans hzi.2.1 (by decide), trivial⟩
                have hWo : ∀ y ∈ withH A x, okH y := withH_ok hAo hxo
                have hWl : (withH A x).length ≤ 40001 := by have := withH_len' A x; omega
                repeat' (first
                  | ((apply al_call 13; refine JL_o (by exact OpR_callF en13 rfl (rlclone_r _ a3 ps.length c3 (ps.map meanQ) (slQ hs (by repeat (first | exact List.Mem.head _ | apply List.Mem.tail)) (by repeat (first | exact List.Mem.head _ | apply List.Mem.tail)) hpo) (by omega) (by rw [← hm]; omega))) rfl rfl ?_; rintro _ _ ⟨q1, aw, cw, ⟨hm1, ho1'⟩, rfl, hf⟩; rw [← hm] at hm1; have hs := hs.fresh hf; (try simp only [List.cons_append, List.nil_append] at hs)))
                  | ((apply al_call 14; refine JL_o (by exact OpR_callF en14 rfl (all15_r _ a3 ps.length c3 (ps.map meanQ) (slQ hs (by repeat (first | exact List.Mem.head _ | apply List.Mem.tail)) (by repeat (first | exact List.Mem.head _ | apply List.Mem.tail)) hpo) (by rw [← hm]; omega))) rfl rfl ?_; rintro _ _ ⟨aa, ca, rfl, hf⟩; rw [← hm, ← hA] at hf ⊢; have hs := hs.fresh hf; (try simp only [List.cons_append, List.nil_append] at hs)))
                  | ((apply al_call 15; refine JL_o (by exact OpR_callF en15 rfl (rput_u _ a3 ps.length c3 (ps.map meanQ) x (slQ hs (by repeat (first | exact List.Mem.head _ | apply List.Mem.tail)) (by repeat (first | exact List.Mem.head _ | apply List.Mem.tail)) hpo) hxo (by omega) (by rw [← hm]; omega))) rfl rfl ?_; rintro _ _ ⟨q4, a4, c4, ⟨hm4, ho4⟩, rfl, hf⟩; rw [← hm, hz] at hm4 ⊢; have hs := hs.fresh hf; (try simp only [List.cons_append, List.nil_append] at hs)))
                  | ((apply al_call 17; refine JL_o (by exact OpR_callF en17 rfl (has15_r _ aa A.length ca A x (slH hs (by repeat (first | exact List.Mem.head _ | apply List.Mem.tail)) hAo))) rfl rfl ?_; rintro _ _ ⟨rfl, hE⟩; rw [hind]; have hs := hs.ext hE; (try simp only [List.cons_append, List.nil_append] at hs)))
                  | ((apply al_call 18; refine JL_o (by exact OpR_callF en18 rfl (may15_r _ x hxo)) rfl rfl ?_; rintro _ _ ⟨rfl, hE⟩; rw [hmay]; have hs := hs.ext hE; (try simp only [List.cons_append, List.nil_append] at hs)))
                  | ((apply al_call 19; refine JL_o (by exact OpR_callF en19 rfl (with15_r _ aa A.length ca A x (slH hs (by repeat (first | exact List.Mem.head _ | apply List.Mem.tail)) hAo) (by omega))) rfl rfl ?_; rintro _ _ ⟨ax, cx, rfl, hf⟩; have hs := hs.fresh hf; (try simp only [List.cons_append, List.nil_append] at hs)))
                  | ((apply al_callg 22; refine JL_o_on rfl gb (by exact OpR_callF en22 rfl (of15_r _ ax _ cx (withH A x) (slH hs (by repeat (first | exact List.Mem.head _ | apply List.Mem.tail)) hWo) (by omega))) rfl rfl ?_; rintro _ _ ⟨q9, a9, c9, ⟨hm9, ho9⟩, rfl, hf⟩; have hs := hs.fresh hf; (try simp only [List.cons_append, List.nil_append] at hs)))
                  | ((apply al_callg 21; refine JL_o_on rfl gb (by exact OpR_callF en21 rfl (Same15_r _ a4 a9 q4.length c4 q9.length c9 (q4.map meanQ) (q9.map meanQ) (slQ hs (by repeat (first | exact List.Mem.head _ | apply List.Mem.tail)) (by repeat (first | exact List.Mem.head _ | apply List.Mem.tail)) ho4) (slQ hs (by repeat (first | exact List.Mem.head _ | apply List.Mem.tail)) (by repeat (first | exact List.Mem.head _ | apply List.Mem.tail)) ho9))) rfl rfl ?_; rintro _ _ ⟨rfl, hE⟩; rw [show decide (q4.map meanQ = q9.map meanQ) = true from decide_eq_true (hm4.trans hm9.symm)]; have hs := hs.ext hE; (try simp only [List.cons_append, List.nil_append] at hs)))
                  | ((apply al_call 13; refine JL_o (by exact OpR_callF en13 rfl (rlclone_r _ a4 q4.length c4 (q4.map meanQ) (slQ hs (by repeat (first | exact List.Mem.head _ | apply List.Mem.tail)) (by repeat (first | exact List.Mem.head _ | apply List.Mem.tail)) ho4) (hzl _ hm4).1 (by rw [hm4]; exact hzt))) rfl rfl ?_; rintro _ _ ⟨q5, a5, c5, ⟨hm5, ho5⟩, rfl, hf⟩; have hs := hs.fresh hf; (try simp only [List.cons_append, List.nil_append] at hs)))
                  | ((apply al_none (t := 111); have hs2 : St w NoF _ ([TabQ a4 q4.length c4 (q4.map rawQ), OwnQ q4] ++ [_, _, _, _, _, _, _]) := hs.sel [5, 6, 0, 1, 8, 9, 10, 11, 12] (by decide); refine JL_o (OpR_callF en23 rfl (rlspoil_r _ a4 c4 q4 (St.held (A := [_, _]) hs2) ho4 (hzl _ hm4).1 (tot_each (by rw [hm4]; exact hzt)))) rfl rfl ?_; rintro _ _ ht; have hs := St.take (A := [_, _]) (A' := []) hs2 ht; simp only [List.nil_append] at hs))
                  | ((apply al_call 21; refine JL_o (by exact OpR_callF en21 rfl (Same15_r _ a3 aw ps.length c3 q1.length cw (ps.map meanQ) (q1.map meanQ) (slQ hs (by repeat (first | exact List.Mem.head _ | apply List.Mem.tail)) (by repeat (first | exact List.Mem.head _ | apply List.Mem.tail)) hpo) (slQ hs (by repeat (first | exact List.Mem.head _ | apply List.Mem.tail)) (by repeat (first | exact List.Mem.head _ | apply List.Mem.tail)) ho1'))) rfl rfl ?_; rintro _ _ ⟨rfl, hE⟩; rw [hm1, ← hm, hmm]; have hs := hs.ext hE; (try simp only [List.cons_append, List.nil_append] at hs)))
                  | (apply JL_nil)
                  | ((first | (apply JL_pure) | (apply JL_pure_on; exact rfl; exact gb)); (first
      | (apply as_load; first | exact OpR_load_agg' hs rfl is_rfl | exact OpR_load_el (hp0.st hs) hv rfl rfl is_rfl)
      | (apply as_move; exact OpR_move rfl is_rfl)
      | (apply as_assign; exact OpR_assign rfl is_rfl)
      | (apply as_add; exact OpR_addn rfl rfl (by omega) (by first | (simp only [Int.reduceAdd]; exact rfl) | exact rfl) is_rfl)
      | (apply as_binOp; exact OpR_ibin rfl rfl rfl is_rfl)
      | (apply as_unOp; exact OpR_not rfl is_rfl)
      | (apply as_pick; first | exact OpR_pick_t rfl gb rfl is_rfl | exact OpR_pick_f rfl gb rfl is_rfl)
      | (apply as_b_len; exact OpR_len rfl is_rfl)
      | (apply as_extract; exact OpR_extract rfl rfl is_rfl)
      | (apply as_indexAddr; exact OpR_indexAddr rfl rfl (by omega) (by omega) is_rfl)); first | (exact rfl; exact rfl) | exact rfl)
                  | (apply J_seq)
                  | (apply J_region)
                  | (apply J_block)
                  | (apply J_inBlock)
                  | (apply J_skip)
                  | (apply al_none (t := 12); refine JL_o (by apply as_alloc; exact OpR_alloc' hs) rfl rfl ?_; rintro _ _ ⟨b12, rfl, hb12, hs, hE⟩)
                  | (apply al_unit; refine JL_u (by apply as_store; exact OpR_store' hs rfl rfl rfl) rfl ?_; rintro _ _ ⟨hs, hF⟩)
                  | (apply aj_cond; first | refine J_dec_t rfl ob ?_ | refine J_dec_f rfl ob ?_ | refine J_cond_t rfl gb ?_ | refine J_cond_f rfl gb ?_))
                refine ih2 (k + 1, q5, a5, c5) _ _ ⟨hs.sel [0, 1] (by decide), ho5, ?_, hlt⟩ (by show n1 - (k + 1) < n1 - k; omega) (by repeat' (first | exact trivial | exact rfl | apply And.intro))
                rw [hm5, hm4]
                exact invG_right hzr
    · repeat' (first
        | (apply JL_nil)
        | ((apply JL_pure); (first
      | (apply as_move; exact OpR_move rfl is_rfl)
      | (apply as_add; exact OpR_addn rfl rfl (by omega) (by first | (simp only [Int.reduceAdd]; exact rfl) | exact rfl) is_rfl)
      | (apply as_binOp; exact OpR_ibin rfl rfl rfl is_rfl)); first | (exact rfl; exact rfl) | exact rfl)
        | (apply J_seq)
        | (apply J_region)
        | (apply J_inBlock)
        | (apply aj_exit; refine J_exit rfl ?_)
        | (apply aj_cond; refine J_dec_f rfl ob ?_))
      refine ih (1, ps, a3, c3) _ _ ⟨hs, hpo, hinv2, by show 1 ≤ 2; decide⟩ (by show 2 - 1 < 2 - 0; decide) (by repeat' (first | exact trivial | exact rfl | apply And.intro))
  · repeat' (first
      | (apply JL_nil)
      | ((apply JL_pure); (first
      | (apply as_move; exact OpR_move rfl is_rfl)
      | (apply as_assign; exact OpR_assign rfl is_rfl)
      | (apply as_binOp; exact OpR_ibin rfl rfl rfl is_rfl)
      | (apply as_b_len; exact OpR_len rfl is_rfl)
      | (apply as_index; exact OpR_index rfl rfl (by omega) (by omega) rfl is_rfl)); first | (exact rfl; exact rfl) | exact rfl)
      | (apply J_seq)
      | (apply J_region)
      | (apply J_block)
      | (apply J_skip)
      | (apply aj_cond; refine J_dec_t rfl ob ?_))
    refine J_loopK (α := Nat × List QR × Option Addr × Nat) [(8, _), (9, _), (29, _), (30, _), (34, _), (35, _)] (fun g => [(7, .slice g.2.2.1 g.2.1.length g.2.2.2), (36, .int .i64 g.1)]) (fun g w' => St w NoF w' [TabQ g.2.2.1 g.2.1.length g.2.2.2 (g.2.1.map rawQ), OwnQ g.2.1] ∧ (∀ q ∈ g.2.1, okQ q) ∧ InvG bb (g.2.1.map meanQ) ∧ g.1 ≤ n2) (fun g => n2 - g.1) (0, qs, a', c') ⟨hs, hqo, hinv, Nat.zero_le _⟩ (by repeat' (first | exact trivial | exact rfl | apply And.intro)) ?_
    rintro ⟨k, ps, a3, c3⟩ w3 ⟨hs1, hpo, hinv2, hk⟩ ih2
    dsimp only at hs1 hpo hinv2 hk ih2 ⊢
    have hs : St w NoF w3 [_, _] := hs1
    by_cases hlt : k < n2
    · obtain ⟨b, o, rfl⟩ := hp1.sl.addr (by omega)
      have hs : St w NoF w3 [_, _] := hs1
      have hv : p1[k]? = some (p1[k]'(by omega)) := List.getElem?_eq_getElem (by omega)
      obtain ⟨x, hxd⟩ : ∃ x, x = p1[k]'(by omega) := ⟨_, rfl⟩
      rw [← hxd] at hv
      have hxo := ho1 x (List.mem_of_getElem? hv)
      by_cases h8 : (k : Int) = 8
      · repeat' (first
          | (apply JL_nil)
          | ((apply JL_pure); (first
      | (apply as_load; exact OpR_load_el (hp1.st hs) hv rfl rfl is_rfl)
      | (apply as_move; exact OpR_move rfl is_rfl)
      | (apply as_assign; exact OpR_assign rfl is_rfl)
      | (apply as_add; exact OpR_addn rfl rfl (by omega) (by first | (simp only [Int.reduceAdd]; exact rfl) | exact rfl) is_rfl)
      | (apply as_binOp; exact OpR_ibin rfl rfl rfl is_rfl)
      | (apply as_indexAddr; exact OpR_indexAddr rfl rfl (by omega) (by omega) is_rfl)); first | (exact rfl; exact rfl) | exact rfl)
          | (apply J_seq)
          | (apply J_region)
          | (apply J_block)
          | (apply J_inBlock)
          | (apply aj_exit; refine J_exit rfl ?_)
          | (apply J_skip)
          | (apply al_none (t := 12); refine JL_o (by apply as_alloc; exact OpR_alloc' hs) rfl rfl ?_; rintro _ _ ⟨b12, rfl, hb12, hs, hE⟩)
          | (apply al_unit; refine JL_u (by apply as_store; exact OpR_store' hs rfl rfl rfl) rfl ?_; rintro _ _ ⟨hs, hF⟩)
          | (apply aj_cond; refine J_dec_t rfl ob ?_))
        refine ih (2, ps, a3, c3) _ _ ⟨hs.sel [1, 2] (by decide), hpo, hinv2, by show 2 ≤ 2; decide⟩ (by show 2 - 2 < 2 - 1; decide) (by repeat' (first | exact trivial | exact rfl | apply And.intro))
      · obtain ⟨m, hm⟩ : ∃ m, m = ps.map meanQ := ⟨_, rfl⟩
        have hml : ps.length = m.length := by rw [hm, List.length_map]
        have hmm : decide (m = m) = true := decide_eq_true rfl
        rw [← hm] at hinv2
        obtain ⟨hir, hil, hit⟩ := hinv2
        have hml2 : m.length ≤ 40000 := hil
        have hall := allH_len m
        obtain ⟨A, hA⟩ : ∃ A, A = allH m := ⟨_, rfl⟩
        have hAo : ∀ y ∈ A, okH y := by rw [hA]; exact allH_ok (by rw [hm]; intro r hr; obtain ⟨q, hq, rfl⟩ := List.mem_map.1 hr; exact ⟨(hpo q hq).1, (hpo q hq).2.2⟩)
        have hAl : A.length ≤ 40000 := by rw [hA]; omega
        cases bb with
        | false =>
          obtain ⟨mb, hmay⟩ : ∃ mb, mayH x = mb := ⟨_, rfl⟩
          have hz : stepM false (m, 0) x = ([], 250) := sdrop_no (by unfold dropC; rw [if_neg (by rw [hir]; decide)]) (by decide)
          have hzt : tot [] ≤ 1000000 := by rw [tot_nil']; decide
          have hzl : ∀ q : List QR, q.map meanQ = [] → q.length ≤ 1000000 ∧ True := fun q hq => ⟨by have := congrArg List.length hq; rw [List.length_map] at this; rw [this]; decide, trivial⟩
          repeat' (first
            | ((apply al_call 13; refine JL_o (by exact OpR_callF en13 rfl (rlclone_r _ a3 ps.length c3 (ps.map meanQ) (slQ hs (by repeat (first | exact List.Mem.head _ | apply List.Mem.tail)) (by repeat (first | exact List.Mem.head _ | apply List.Mem.tail)) hpo) (by omega) (by rw [← hm]; omega))) rfl rfl ?_; rintro _ _ ⟨q1, aw, cw, ⟨hm1, ho1'⟩, rfl, hf⟩; rw [← hm] at hm1; have hs := hs.fresh hf; (try simp only [List.cons_append, List.nil_append] at hs)))
            | ((apply al_call 15; refine JL_o (by exact OpR_callF en15 rfl (rput_u _ a3 ps.length c3 (ps.map meanQ) x (slQ hs (by repeat (first | exact List.Mem.head _ | apply List.Mem.tail)) (by repeat (first | exact List.Mem.head _ | apply List.Mem.tail)) hpo) hxo (by omega) (by rw [← hm]; omega))) rfl rfl ?_; rintro _ _ ⟨q6, a6, c6, ⟨hm6, ho6⟩, rfl, hf⟩; have hs := hs.fresh hf; (try simp only [List.cons_append, List.nil_append] at hs)))
            | ((apply al_call 16; refine JL_o (by exact OpR_callF en16 rfl (rdrop_u _ a3 ps.length c3 (ps.map meanQ) x (slQ hs (by repeat (first | exact List.Mem.head _ | apply List.Mem.tail)) (by repeat (first | exact List.Mem.head _ | apply List.Mem.tail)) hpo) hxo (by omega) (by rw [← hm]; omega))) rfl rfl ?_; rintro _ _ ⟨q4, a4, c4, ⟨hm4, ho4⟩, rfl, hf⟩; rw [← hm, hz] at hm4 ⊢; have hs := hs.fresh hf; (try simp only [List.cons_append, List.nil_append] at hs)))
            | ((apply al_call 17; refine JL_o (by exact OpR_callF en17 rfl (has15_r _ none 0 0 [] x (slNil _))) rfl rfl ?_; rintro _ _ ⟨rfl, hE⟩; have hs := hs.ext hE; (try simp only [List.cons_append, List.nil_append] at hs)))
            | ((apply al_callg 22; refine JL_o_on rfl gb (by exact OpR_callF en22 rfl (of15_r _ none 0 0 [] (slNil _) (by decide))) rfl rfl ?_; rintro _ _ ⟨q9, a9, c9, ⟨hm9, ho9⟩, rfl, hf⟩; have hs := hs.fresh hf; (try simp only [List.cons_append, List.nil_append] at hs)))
            | ((apply al_callg 21; refine JL_o_on rfl gb (by exact OpR_callF en21 rfl (Same15_r _ a4 a9 q4.length c4 q9.length c9 (q4.map meanQ) (q9.map meanQ) (slQ hs (by repeat (first | exact List.Mem.head _ | apply List.Mem.tail)) (by repeat (first | exact List.Mem.head _ | apply List.Mem.tail)) ho4) (slQ hs (by repeat (first | exact List.Mem.head _ | apply List.Mem.tail)) (by repeat (first | exact List.Mem.head _ | apply List.Mem.tail)) ho9))) rfl rfl ?_; rintro _ _ ⟨rfl, hE⟩; rw [show decide (q4.map meanQ = q9.map meanQ) = true from decide_eq_true (hm4.trans (of_nil.symm.trans hm9.symm))]; have hs := hs.ext hE; (try simp only [List.cons_append, List.nil_append] at hs)))
            | ((apply al_call 13; refine JL_o (by exact OpR_callF en13 rfl (rlclone_r _ a4 q4.length c4 (q4.map meanQ) (slQ hs (by repeat (first | exact List.Mem.head _ | apply List.Mem.tail)) (by repeat (first | exact List.Mem.head _ | apply List.Mem.tail)) ho4) (hzl _ hm4).1 (by rw [hm4]; exact hzt))) rfl rfl ?_; rintro _ _ ⟨q5, a5, c5, ⟨hm5, ho5⟩, rfl, hf⟩; have hs := hs.fresh hf; (try simp only [List.cons_append, List.nil_append] at hs)))
            | ((apply al_none (t := 111); have hs2 : St w NoF _ ([TabQ a4 q4.length c4 (q4.map rawQ), OwnQ q4] ++ [_, _, _, _, _, _, _]) := hs.sel [4, 5, 0, 1, 8, 9, 10, 11, 12] (by decide); refine JL_o (OpR_callF en23 rfl (rlspoil_r _ a4 c4 q4 (St.held (A := [_, _]) hs2) ho4 (hzl _ hm4).1 (tot_each (by rw [hm4]; exact hzt)))) rfl rfl ?_; rintro _ _ ht; have hs := St.take (A := [_, _]) (A' := []) hs2 ht; simp only [List.nil_append] at hs))
            | ((apply al_call 21; refine JL_o (by exact OpR_callF en21 rfl (Same15_r _ a3 aw ps.length c3 q1.length cw (ps.map meanQ) (q1.map meanQ) (slQ hs (by repeat (first | exact List.Mem.head _ | apply List.Mem.tail)) (by repeat (first | exact List.Mem.head _ | apply List.Mem.tail)) hpo) (slQ hs (by repeat (first | exact List.Mem.head _ | apply List.Mem.tail)) (by repeat (first | exact List.Mem.head _ | apply List.Mem.tail)) ho1'))) rfl rfl ?_; rintro _ _ ⟨rfl, hE⟩; rw [hm1, ← hm, hmm]; have hs := hs.ext hE; (try simp only [List.cons_append, List.nil_append] at hs)))
            | (apply JL_nil)
            | ((first | (apply JL_pure) | (apply JL_pure_on; exact rfl; exact gb)); (first
      | (apply as_load; first | exact OpR_load_agg' hs rfl is_rfl | exact OpR_load_el (hp1.st hs) hv rfl rfl is_rfl)
      | (apply as_move; exact OpR_move rfl is_rfl)
      | (apply as_assign; exact OpR_assign rfl is_rfl)
      | (apply as_add; exact OpR_addn rfl rfl (by omega) (by first | (simp only [Int.reduceAdd]; exact rfl) | exact rfl) is_rfl)
      | (apply as_binOp; exact OpR_ibin rfl rfl rfl is_rfl)
      | (apply as_unOp; exact OpR_not rfl is_rfl)
      | (apply as_pick; exact OpR_pick_f rfl gb rfl is_rfl)
      | (apply as_extract; exact OpR_extract rfl rfl is_rfl)
      | (apply as_indexAddr; exact OpR_indexAddr rfl rfl (by omega) (by omega) is_rfl)); first | (exact rfl; exact rfl) | exact rfl)
            | (apply J_seq)
            | (apply J_region)
            | (apply J_block)
            | (apply J_inBlock)
            | (apply J_skip)
            | (apply al_none (t := 12); refine JL_o (by apply as_alloc; exact OpR_alloc' hs) rfl rfl ?_; rintro _ _ ⟨b12, rfl, hb12, hs, hE⟩)
            | (apply al_unit; refine JL_u (by apply as_store; exact OpR_store' hs rfl rfl rfl) rfl ?_; rintro _ _ ⟨hs, hF⟩)
            | (apply aj_cond; first | refine J_dec_t rfl ob ?_ | refine J_dec_f rfl ob ?_ | refine J_cond_t rfl gb ?_ | refine J_cond_f rfl gb ?_))
          refine ih2 (k + 1, ps, a3, c3) _ _ ⟨hs.sel [5, 6] (by decide), hpo, by dsimp only; rw [← hm]; exact ⟨hir, hil, hit⟩, hlt⟩ (by show n2 - (k + 1) < n2 - k; omega) (by repeat' (first | exact trivial | exact rfl | apply And.intro))
        | true =>
          cases hmay : mayH x with
          | false =>
            have hz : stepM false (m, 0) x = ([], 2) := sdrop_no (by unfold dropC; rw [if_pos hir, if_neg (by rw [hmay]; decide)]) (by decide)
            have hzt : tot [] ≤ 1000000 := by rw [tot_nil']; decide
            have hzl : ∀ q : List QR, q.map meanQ = [] → q.length ≤ 1000000 ∧ True := fun q hq => ⟨by have := congrArg List.length hq; rw [List.length_map] at this; rw [this]; decide, trivial⟩
            repeat' (first
              | ((apply al_call 13; refine JL_o (by exact OpR_callF en13 rfl (rlclone_r _ a3 ps.length c3 (ps.map meanQ) (slQ hs (by repeat (first | exact List.Mem.head _ | apply List.Mem.tail)) (by repeat (first | exact List.Mem.head _ | apply List.Mem.tail)) hpo) (by omega) (by rw [← hm]; omega))) rfl rfl ?_; rintro _ _ ⟨q1, aw, cw, ⟨hm1, ho1'⟩, rfl, hf⟩; rw [← hm] at hm1; have hs := hs.fresh hf; (try simp only [List.cons_append, List.nil_append] at hs)))
              | ((apply al_call 14; refine JL_o (by exact OpR_callF en14 rfl (all15_r _ a3 ps.length c3 (ps.map meanQ) (slQ hs (by repeat (first | exact List.Mem.head _ | apply List.Mem.tail)) (by repeat (first | exact List.Mem.head _ | apply List.Mem.tail)) hpo) (by rw [← hm]; omega))) rfl rfl ?_; rintro _ _ ⟨aa, ca, rfl, hf⟩; rw [← hm, ← hA] at hf ⊢; have hs := hs.fresh hf; (try simp only [List.cons_append, List.nil_append] at hs)))
              | ((apply al_call 15; refine JL_o (by exact OpR_callF en15 rfl (rput_u _ a3 ps.length c3 (ps.map meanQ) x (slQ hs (by repeat (first | exact List.Mem.head _ | apply List.Mem.tail)) (by repeat (first | exact List.Mem.head _ | apply List.Mem.tail)) hpo) hxo (by omega) (by rw [← hm]; omega))) rfl rfl ?_; rintro _ _ ⟨q6, a6, c6, ⟨hm6, ho6⟩, rfl, hf⟩; have hs := hs.fresh hf; (try simp only [List.cons_append, List.nil_append] at hs)))
              | ((apply al_call 16; refine JL_o (by exact OpR_callF en16 rfl (rdrop_u _ a3 ps.length c3 (ps.map meanQ) x (slQ hs (by repeat (first | exact List.Mem.head _ | apply List.Mem.tail)) (by repeat (first | exact List.Mem.head _ | apply List.Mem.tail)) hpo) hxo (by omega) (by rw [← hm]; omega))) rfl rfl ?_; rintro _ _ ⟨q4, a4, c4, ⟨hm4, ho4⟩, rfl, hf⟩; rw [← hm, hz] at hm4 ⊢; have hs := hs.fresh hf; (try simp only [List.cons_append, List.nil_append] at hs)))
              | ((apply al_call 17; refine JL_o (by exact OpR_callF en17 rfl (has15_r _ aa A.length ca A x (slH hs (by repeat (first | exact List.Mem.head _ | apply List.Mem.tail)) hAo))) rfl rfl ?_; rintro _ _ ⟨rfl, hE⟩; have hs := hs.ext hE; (try simp only [List.cons_append, List.nil_append] at hs)))
              | ((apply al_call 18; refine JL_o (by exact OpR_callF en18 rfl (may15_r _ x hxo)) rfl rfl ?_; rintro _ _ ⟨rfl, hE⟩; rw [hmay]; have hs := hs.ext hE; (try simp only [List.cons_append, List.nil_append] at hs)))
              | ((apply al_callg 22; refine JL_o_on rfl gb (by exact OpR_callF en22 rfl (of15_r _ none 0 0 [] (slNil _) (by decide))) rfl rfl ?_; rintro _ _ ⟨q9, a9, c9, ⟨hm9, ho9⟩, rfl, hf⟩; have hs := hs.fresh hf; (try simp only [List.cons_append, List.nil_append] at hs)))
              | ((apply al_callg 21; refine JL_o_on rfl gb (by exact OpR_callF en21 rfl (Same15_r _ a4 a9 q4.length c4 q9.length c9 (q4.map meanQ) (q9.map meanQ) (slQ hs (by repeat (first | exact List.Mem.head _ | apply List.Mem.tail)) (by repeat (first | exact List.Mem.head _ | apply List.Mem.tail)) ho4) (slQ hs (by repeat (first | exact List.Mem.head _ | apply List.Mem.tail)) (by repeat (first | exact List.Mem.head _ | apply List.Mem.tail)) ho9))) rfl rfl ?_; rintro _ _ ⟨rfl, hE⟩; rw [show decide (q4.map meanQ = q9.map meanQ) = true from decide_eq_true (hm4.trans (of_nil.symm.trans hm9.symm))]; have hs := hs.ext hE; (try simp only [List.cons_append, List.nil_append] at hs)))
              | ((apply al_call 13; refine JL_o (by exact OpR_callF en13 rfl (rlclone_r _ a4 q4.length c4 (q4.map meanQ) (slQ hs (by repeat (first | exact List.Mem.head _ | apply List.Mem.tail)) (by repeat (first | exact List.Mem.head _ | apply List.Mem.tail)) ho4) (hzl _ hm4).1 (by rw [hm4]; exact hzt))) rfl rfl ?_; rintro _ _ ⟨q5, a5, c5, ⟨hm5, ho5⟩, rfl, hf⟩; have hs := hs.fresh hf; (try simp only [List.cons_append, List.nil_append] at hs)))
              | ((apply al_none (t := 111); have hs2 : St w NoF _ ([TabQ a4 q4.length c4 (q4.map rawQ), OwnQ q4] ++ [_, _, _, _, _, _, _]) := hs.sel [4, 5, 0, 1, 9, 10, 11, 12, 13] (by decide); refine JL_o (OpR_callF en23 rfl (rlspoil_r _ a4 c4 q4 (St.held (A := [_, _]) hs2) ho4 (hzl _ hm4).1 (tot_each (by rw [hm4]; exact hzt)))) rfl rfl ?_; rintro _ _ ht; have hs := St.take (A := [_, _]) (A' := []) hs2 ht; simp only [List.nil_append] at hs))
              | ((apply al_call 21; refine JL_o (by exact OpR_callF en21 rfl (Same15_r _ a3 aw ps.length c3 q1.length cw (ps.map meanQ) (q1.map meanQ) (slQ hs (by repeat (first | exact List.Mem.head _ | apply List.Mem.tail)) (by repeat (first | exact List.Mem.head _ | apply List.Mem.tail)) hpo) (slQ hs (by repeat (first | exact List.Mem.head _ | apply List.Mem.tail)) (by repeat (first | exact List.Mem.head _ | apply List.Mem.tail)) ho1'))) rfl rfl ?_; rintro _ _ ⟨rfl, hE⟩; rw [hm1, ← hm, hmm]; have hs := hs.ext hE; (try simp only [List.cons_append, List.nil_append] at hs)))
              | (apply JL_nil)
              | ((first | (apply JL_pure) | (apply JL_pure_on; exact rfl; exact gb)); (first
      | (apply as_load; first | exact OpR_load_agg' hs rfl is_rfl | exact OpR_load_el (hp1.st hs) hv rfl rfl is_rfl)
      | (apply as_move; exact OpR_move rfl is_rfl)
      | (apply as_assign; exact OpR_assign rfl is_rfl)
      | (apply as_add; exact OpR_addn rfl rfl (by omega) (by first | (simp only [Int.reduceAdd]; exact rfl) | exact rfl) is_rfl)
      | (apply as_binOp; exact OpR_ibin rfl rfl rfl is_rfl)
      | (apply as_unOp; exact OpR_not rfl is_rfl)
      | (apply as_pick; exact OpR_pick_f rfl gb rfl is_rfl)
      | (apply as_extract; exact OpR_extract rfl rfl is_rfl)
      | (apply as_indexAddr; exact OpR_indexAddr rfl rfl (by omega) (by omega) is_rfl)); first | (exact rfl; exact rfl) | exact rfl)
              | (apply J_seq)
              | (apply J_region)
              | (apply J_block)
              | (apply J_inBlock)
              | (apply J_skip)
              | (apply al_none (t := 12); refine JL_o (by apply as_alloc; exact OpR_alloc' hs) rfl rfl ?_; rintro _ _ ⟨b12, rfl, hb12, hs, hE⟩)
              | (apply al_unit; refine JL_u (by apply as_store; exact OpR_store' hs rfl rfl rfl) rfl ?_; rintro _ _ ⟨hs, hF⟩)
              | (apply aj_cond; first | refine J_dec_t rfl ob ?_ | refine J_dec_f rfl ob ?_ | refine J_cond_t rfl gb ?_ | refine J_cond_f rfl gb ?_))
            refine ih2 (k + 1, ps, a3, c3) _ _ ⟨hs.sel [5, 6] (by decide), hpo, by dsimp only; rw [← hm]; exact ⟨hir, hil, hit⟩, hlt⟩ (by show n2 - (k + 1) < n2 - k; omega) (by repeat' (first | exact trivial | exact rfl | apply And.intro))
          | true =>
            by_cases hin : x ∈ A
            · have hind : decide (x ∈ A) = true := decide_eq_true hin
              have hp : dropC m x = 0 := by unfold dropC; rw [if_pos hir, if_pos hmay]; rw [if_pos (by rw [← hA]; exact hin)]
              obtain ⟨hzr, hza⟩ := drop_right hp
              rw [← hA] at hzr hza
              have hz : stepM false (m, 0) x = (ofH (withoutH A x), 0) := by rw [hA]; exact stepD_of hp
              have hzi := invG_right hzr
              have hzt : tot (ofH (withoutH A x)) ≤ 1000000 := Nat.le_trans hzi.2.2 (by decide)
              have hzl : ∀ q : List QR, q.map meanQ = ofH (withoutH A x) → q.length ≤ 1000000 ∧ True := fun q hq => ⟨by have := congrArg List.length hq; rw [List.length_map] at this; rw [this]; exact Nat.le_trans hzi.2.1 (by decide), trivial⟩
              have hWo : ∀ y ∈ withoutH A x, okH y := fun y hy => hAo y (withoutH_mem.1 hy).1
              have hWl : (withoutH A x).length ≤ 40001 := by have := withoutH_len A x; omega
              repeat' (first
                | ((apply al_call 13; refine JL_o (by exact OpR_callF en13 rfl (rlclone_r _ a3 ps.length c3 (ps.map meanQ) (slQ hs (by repeat (first | exact List.Mem.head _ | apply List.Mem.tail)) (by repeat (first | exact List.Mem.head _ | apply List.Mem.tail)) hpo) (by omega) (by rw [← hm]; omega))) rfl rfl ?_; rintro _ _ ⟨q1, aw, cw, ⟨hm1, ho1'⟩, rfl, hf⟩; rw [← hm] at hm1; have hs := hs.fresh hf; (try simp only [List.cons_append, List.nil_append] at hs)))
                | ((apply al_call 14; refine JL_o (by exact OpR_callF en14 rfl (all15_r _ a3 ps.length c3 (ps.map meanQ) (slQ hs (by repeat (first | exact List.Mem.head _ | apply List.Mem.tail)) (by repeat (first | exact List.Mem.head _ | apply List.Mem.tail)) hpo) (by rw [← hm]; omega))) rfl rfl ?_; rintro _ _ ⟨aa, ca, rfl, hf⟩; rw [← hm, ← hA] at hf ⊢; have hs := hs.fresh hf; (try simp only [List.cons_append, List.nil_append] at hs)))
                | ((apply al_call 15; refine JL_o (by exact OpR_callF en15 rfl (rput_u _ a3 ps.length c3 (ps.map meanQ) x (slQ hs (by repeat (first | exact List.Mem.head _ | apply List.Mem.tail)) (by repeat (first | exact List.Mem.head _ | apply List.Mem.tail)) hpo) hxo (by omega) (by rw [← hm]; omega))) rfl rfl ?_; rintro _ _ ⟨q6, a6, c6, ⟨hm6, ho6⟩, rfl, hf⟩; have hs := hs.fresh hf; (try simp only [List.cons_append, List.nil_append] at hs)))
                | ((apply al_call 16; refine JL_o (by exact OpR_callF en16 rfl (rdrop_u _ a3 ps.length c3 (ps.map meanQ) x (slQ hs (by repeat (first | exact List.Mem.head _ | apply List.Mem.tail)) (by repeat (first | exact List.Mem.head _ | apply List.Mem.tail)) hpo) hxo (by omega) (by rw [← hm]; omega))) rfl rfl ?_; rintro _ _ ⟨q4, a4, c4, ⟨hm4, ho4⟩, rfl, hf⟩; rw [← hm, hz] at hm4 ⊢; have hs := hs.fresh hf; (try simp only [List.cons_append, List.nil_append] at hs)))
                | ((apply al_call 17; refine JL_o (by exact OpR_callF en17 rfl (has15_r _ aa A.length ca A x (slH hs (by repeat (first | exact List.Mem.head _ | apply List.Mem.tail)) hAo))) rfl rfl ?_; rintro _ _ ⟨rfl, hE⟩; rw [hind]; have hs := hs.ext hE; (try simp only [List.cons_append, List.nil_append] at hs)))
                | ((apply al_call 18; refine JL_o (by exact OpR_callF en18 rfl (may15_r _ x hxo)) rfl rfl ?_; rintro _ _ ⟨rfl, hE⟩; rw [hmay]; have hs := hs.ext hE; (try simp only [List.cons_append, List.nil_append] at hs)))
                | ((apply al_call 20; refine JL_o (by exact OpR_callF en20 rfl (without15_r _ aa A.length ca A x (slH hs (by repeat (first | exact List.Mem.head _ | apply List.Mem.tail)) hAo) (by omega))) rfl rfl ?_; rintro _ _ ⟨ax, cx, rfl, hf⟩; have hs := hs.fresh hf; (try simp only [List.cons_append, List.nil_append] at hs)))
                | ((apply al_callg 22; refine JL_o_on rfl gb (by exact OpR_callF en22 rfl (of15_r _ ax _ cx (withoutH A x) (slH hs (by repeat (first | exact List.Mem.head _ | apply List.Mem.tail)) hWo) (by omega))) rfl rfl ?_; rintro _ _ ⟨q9, a9, c9, ⟨hm9, ho9⟩, rfl, hf⟩; have hs := hs.fresh hf; (try simp only [List.cons_append, List.nil_append] at hs)))
                | ((apply al_callg 21; refine JL_o_on rfl gb (by exact OpR_callF en21 rfl (Same15_r _ a4 a9 q4.length c4 q9.length c9 (q4.map meanQ) (q9.map meanQ) (slQ hs (by repeat (first | exact List.Mem.head _ | apply List.Mem.tail)) (by repeat (first | exact List.Mem.head _ | apply List.Mem.tail)) ho4) (slQ hs (by repeat (first | exact List.Mem.head _ | apply List.Mem.tail)) (by repeat (first | exact List.Mem.head _ | apply List.Mem.tail)) ho9))) rfl rfl ?_; rintro _ _ ⟨rfl, hE⟩; rw [show decide (q4.map meanQ = q9.map meanQ) = true from decide_eq_true (hm4.trans hm9.symm)]; have hs := hs.ext hE; (try simp only [List.cons_append, List.nil_append] at hs)))
                | ((apply al_call 13; refine JL_o (by exact OpR_callF en13 rfl (rlclone_r _ a4 q4.length c4 (q4.map meanQ) (slQ hs (by repeat (first | exact List.Mem.head _ | apply List.Mem.tail)) (by repeat (first | exact List.Mem.head _ | apply List.Mem.tail)) ho4) (hzl _ hm4).1 (by rw [hm4]; exact hzt))) rfl rfl ?_; rintro _ _ ⟨q5, a5, c5, ⟨hm5, ho5⟩, rfl, hf⟩; have hs := hs.fresh hf; (try simp only [List.cons_append, List.nil_append] at hs)))
                | ((apply al_none (t := 111); have hs2 : St w NoF _ ([TabQ a4 q4.length c4 (q4.map rawQ), OwnQ q4] ++ [_, _, _, _, _, _, _]) := hs.sel [5, 6, 0, 1, 10, 11, 12, 13, 14] (by decide); refine JL_o (OpR_callF en23 rfl (rlspoil_r _ a4 c4 q4 (St.held (A := [_, _]) hs2) ho4 (hzl _ hm4).1 (tot_each (by rw [hm4]; exact hzt)))) rfl rfl ?_; rintro _ _ ht; have hs := St.take (A := [_, _]) (A' := []) hs2 ht; simp only [List.nil_append] at hs))
                | ((apply al_call 21; refine JL_o (by exact OpR_callF en21 rfl (Same15_r _ a3 aw ps.length c3 q1.length cw (ps.map meanQ) (q1.map meanQ) (slQ hs (by repeat (first | exact List.Mem.head _ | apply List.Mem.tail)) (by repeat (first | exact List.Mem.head _ | apply List.Mem.tail)) hpo) (slQ hs (by repeat (first | exact List.Mem.head _ | apply List.Mem.tail)) (by repeat (first | exact List.Mem.head _ | apply List.Mem.tail)) ho1'))) rfl rfl ?_; rintro _ _ ⟨rfl, hE⟩; rw [hm1, ← hm, hmm]; have hs := hs.ext hE; (try simp only [List.cons_append, List.nil_append] at hs)))
                | (apply JL_nil)
                | ((first | (apply JL_pure) | (apply JL_pure_on; exact rfl; exact gb)); (first
      | (apply as_load; first | exact OpR_load_agg' hs rfl is_rfl | exact OpR_load_el (hp1.st hs) hv rfl rfl is_rfl)
      | (apply as_move; exact OpR_move rfl is_rfl)
      | (apply as_assign; exact OpR_assign rfl is_rfl)
      | (apply as_add; exact OpR_addn rfl rfl (by omega) (by first | (simp only [Int.reduceAdd]; exact rfl) | exact rfl) is_rfl)
      | (apply as_binOp; exact OpR_ibin rfl rfl rfl is_rfl)
      | (apply as_unOp; exact OpR_not rfl is_rfl)
      | (apply as_pick; exact OpR_pick_f rfl gb rfl is_rfl)
      | (apply as_extract; exact OpR_extract rfl rfl is_rfl)
      | (apply as_indexAddr; exact OpR_indexAddr rfl rfl (by omega) (by omega) is_rfl)); first | (exact rfl; exact rfl) | exact rfl)
                | (apply J_seq)
                | (apply J_region)
                | (apply J_block)
                | (apply J_inBlock)
                | (apply J_skip)
                | (apply al_none (t := 12); refine JL_o (by apply as_alloc; exact OpR_alloc' hs) rfl rfl ?_; rintro _ _ ⟨b12, rfl, hb12, hs, hE⟩)
                | (apply al_unit; refine JL_u (by apply as_store; exact OpR_store' hs rfl rfl rfl) rfl ?_; rintro _ _ ⟨hs, hF⟩)
                | (apply al_guard; (refine JL_no rfl gb rfl ?_))
                | (apply aj_cond; first | refine J_dec_t rfl ob ?_ | refine J_dec_f rfl ob ?_ | refine J_cond_t rfl gb ?_ | refine J_cond_f rfl gb ?_))
              refine ih2 (k + 1, q5, a5, c5) _ _ ⟨hs.sel [0, 1] (by decide), ho5, ?_, hlt⟩ (by show n2 - (k + 1) < n2 - k; omega) (by repeat' (first | exact trivial | exact rfl | apply And.intro))
              rw [hm5, hm4]
              exact invG_right hzr
            · have hind : decide (x ∈ A) = false := decide_eq_false hin
              have hz : stepM false (m, 0) x = ([], 4) := sdrop_no (by unfold dropC; rw [if_pos hir, if_pos hmay, if_neg (by rw [← hA]; exact hin)]) (by decide)
              have hzt : tot [] ≤ 1000000 := by rw [tot_nil']; decide
              have hzl : ∀ q : List QR, q.map meanQ = [] → q.length ≤ 1000000 ∧ True := fun q hq => ⟨by have := congrArg List.length hq; rw [List.length_map] at this; rw [this]; decide, trivial⟩
              repeat' (first
                | ((apply al_call 13; refine JL_o (by exact OpR_callF en13 rfl (rlclone_r _ a3 ps.length c3 (ps.map meanQ) (slQ hs (by repeat (first | exact List.Mem.head _ | apply List.Mem.tail)) (by repeat (first | exact List.Mem.head _ | apply List.Mem.tail)) hpo) (by omega) (by rw [← hm]; omega))) rfl rfl ?_; rintro _ _ ⟨q1, aw, cw, ⟨hm1, ho1'⟩, rfl, hf⟩; rw [← hm] at hm1; have hs := hs.fresh hf; (try simp only [List.cons_append, List.nil_append] at hs)))
                | ((apply al_call 14; refine JL_o (by exact OpR_callF en14 rfl (all15_r _ a3 ps.length c3 (ps.map meanQ) (slQ hs (by repeat (first | exact List.Mem.head _ | apply List.Mem.tail)) (by repeat (first | exact List.Mem.head _ | apply List.Mem.tail)) hpo) (by rw [← hm]; omega))) rfl rfl ?_; rintro _ _ ⟨aa, ca, rfl, hf⟩; rw [← hm, ← hA] at hf ⊢; have hs := hs.fresh hf; (try simp only [List.cons_append, List.nil_append] at hs)))
                | ((apply al_call 15; refine JL_o (by exact OpR_callF en15 rfl (rput_u _ a3 ps.length c3 (ps.map meanQ) x (slQ hs (by repeat (first | exact List.Mem.head _ | apply List.Mem.tail)) (by repeat (first | exact List.Mem.head _ | apply List.Mem.tail)) hpo) hxo (by omega) (by rw [← hm]; omega))) rfl rfl ?_; rintro _ _ ⟨q6, a6, c6, ⟨hm6, ho6⟩, rfl, hf⟩; have hs := hs.fresh hf; (try simp only [List.cons_append, List.nil_append] at hs)))
                | ((apply al_call 16; refine JL_o (by exact OpR_callF en16 rfl (rdrop_u _ a3 ps.length c3 (ps.map meanQ) x (slQ hs (by repeat (first | exact List.Mem.head _ | apply List.Mem.tail)) (by repeat (first | exact List.Mem.head _ | apply List.Mem.tail)) hpo) hxo (by omega) (by rw [← hm]; omega))) rfl rfl ?_; rintro _ _ ⟨q4, a4, c4, ⟨hm4, ho4⟩, rfl, hf⟩; rw [← hm, hz] at hm4 ⊢; have hs := hs.fresh hf; (try simp only [List.cons_append, List.nil_append] at hs)))
                | ((apply al_call 17; refine JL_o (by exact OpR_callF en17 rfl (has15_r _ aa A.length ca A x (slH hs (by repeat (first | exact List.Mem.head _ | apply List.Mem.tail)) hAo))) rfl rfl ?_; rintro _ _ ⟨rfl, hE⟩; rw [hind]; have hs := hs.ext hE; (try simp only [List.cons_append, List.nil_append] at hs)))
                | ((apply al_call 18; refine JL_o (by exact OpR_callF en18 rfl (may15_r _ x hxo)) rfl rfl ?_; rintro _ _ ⟨rfl, hE⟩; rw [hmay]; have hs := hs.ext hE; (try simp only [List.cons_append, List.nil_append] at hs)))
                | ((apply al_callg 22; refine JL_o_on rfl gb (by exact OpR_callF en22 rfl (of15_r _ none 0 0 [] (slNil _) (by decide))) rfl rfl ?_; rintro _ _ ⟨q9, a9, c9, ⟨hm9, ho9⟩, rfl, hf⟩; have hs := hs.fresh hf; (try simp only [List.cons_append, List.nil_append] at hs)))
                | ((apply al_callg 21; refine JL_o_on rfl gb (by exact OpR_callF en21 rfl (Same15_r _ a4 a9 q4.length c4 q9.length c9 (q4.map meanQ) (q9.map meanQ) (slQ hs (by repeat (first | exact List.Mem.head _ | apply List.Mem.tail)) (by repeat (first | exact List.Mem.head _ | apply List.Mem.tail)) ho4) (slQ hs (by repeat (first | exact List.Mem.head _ | apply List.Mem.tail)) (by repeat (first | exact List.Mem.head _ | apply List.Mem.tail)) ho9))) rfl rfl ?_; rintro _ _ ⟨rfl, hE⟩; rw [show decide (q4.map meanQ = q9.map meanQ) = true from decide_eq_true (hm4.trans (of_nil.symm.trans hm9.symm))]; have hs := hs.ext hE; (try simp only [List.cons_append, List.nil_append] at hs)))
                | ((apply al_call 13; refine JL_o (by exact OpR_callF en13 rfl (rlclone_r _ a4 q4.length c4 (q4.map meanQ) (slQ hs (by repeat (first | exact List.Mem.head _ | apply List.Mem.tail)) (by repeat (first | exact List.Mem.head _ | apply List.Mem.tail)) ho4) (hzl _ hm4).1 (by rw [hm4]; exact hzt))) rfl rfl ?_; rintro _ _ ⟨q5, a5, c5, ⟨hm5, ho5⟩, rfl, hf⟩; have hs := hs.fresh hf; (try simp only [List.cons_append, List.nil_append] at hs)))
                | ((apply al_none (t := 111); have hs2 : St w NoF _ ([TabQ a4 q4.length c4 (q4.map rawQ), OwnQ q4] ++ [_, _, _, _, _, _, _]) := hs.sel [4, 5, 0, 1, 9, 10, 11, 12, 13] (by decide); refine JL_o (OpR_callF en23 rfl (rlspoil_r _ a4 c4 q4 (St.held (A := [_, _]) hs2) ho4 (hzl _ hm4).1 (tot_each (by rw [hm4]; exact hzt)))) rfl rfl ?_; rintro _ _ ht; have hs := St.take (A := [_, _]) (A' := []) hs2 ht; simp only [List.nil_append] at hs))
                | ((apply al_call 21; refine JL_o (by exact OpR_callF en21 rfl (Same15_r _ a3 aw ps.length c3 q1.length cw (ps.map meanQ) (q1.map meanQ) (slQ hs (by repeat (first | exact List.Mem.head _ | apply List.Mem.tail)) (by repeat (first | exact List.Mem.head _ | apply List.Mem.tail)) hpo) (slQ hs (by repeat (first | exact List.Mem.head _ | apply List.Mem.tail)) (by repeat (first | exact List.Mem.head _ | apply List.Mem.tail)) ho1'))) rfl rfl ?_; rintro _ _ ⟨rfl, hE⟩; rw [hm1, ← hm, hmm]; have hs := hs.ext hE; (try simp only [List.cons_append, List.nil_append] at hs)))
                | (apply JL_nil)
                | ((first | (apply JL_pure) | (apply JL_pure_on; exact rfl; exact gb)); (first
      | (apply as_load; first | exact OpR_load_agg' hs rfl is_rfl | exact OpR_load_el (hp1.st hs) hv rfl rfl is_rfl)
      | (apply as_move; exact OpR_move rfl is_rfl)
      | (apply as_assign; exact OpR_assign rfl is_rfl)
      | (apply as_add; exact OpR_addn rfl rfl (by omega) (by first | (simp only [Int.reduceAdd]; exact rfl) | exact rfl) is_rfl)
      | (apply as_binOp; exact OpR_ibin rfl rfl rfl is_rfl)
      | (apply as_unOp; exact OpR_not rfl is_rfl)
      | (apply as_pick; exact OpR_pick_f rfl gb rfl is_rfl)
      | (apply as_extract; exact OpR_extract rfl rfl is_rfl)
      | (apply as_indexAddr; exact OpR_indexAddr rfl rfl (by omega) (by omega) is_rfl)); first | (exact rfl; exact rfl) | exact rfl)
                | (apply J_seq)
                | (apply J_region)
                | (apply J_block)
                | (apply J_inBlock)
                | (apply J_skip)
                | (apply al_none (t := 12); refine JL_o (by apply as_alloc; exact OpR_alloc' hs) rfl rfl ?_; rintro _ _ ⟨b12, rfl, hb12, hs, hE⟩)
                | (apply al_unit; refine JL_u (by apply as_store; exact OpR_store' hs rfl rfl rfl) rfl ?_; rintro _ _ ⟨hs, hF⟩)
                | (apply al_guard; (refine JL_no rfl gb rfl ?_))
                | (apply aj_cond; first | refine J_dec_t rfl ob ?_ | refine J_dec_f rfl ob ?_ | refine J_cond_t rfl gb ?_ | refine J_cond_f rfl gb ?_))
              refine ih2 (k + 1, ps, a3, c3) _ _ ⟨hs.sel [5, 6] (by decide), hpo, by dsimp only; rw [← hm]; exact ⟨hir, hil, hit⟩, hlt⟩ (by show n2 - (k + 1) < n2 - k; omega) (by repeat' (first | exact trivial | exact rfl | apply And.intro))
    · repeat' (first
        | (apply JL_nil)
        | ((apply JL_pure); (first
      | (apply as_move; exact OpR_move rfl is_rfl)
      | (apply as_add; exact OpR_addn rfl rfl (by omega) (by first | (simp only [Int.reduceAdd]; exact rfl) | exact rfl) is_rfl)
      | (apply as_binOp; exact OpR_ibin rfl rfl rfl is_rfl)); first | (exact rfl; exact rfl) | exact rfl)
        | (apply J_seq)
        | (apply J_region)
        | (apply J_inBlock)
        | (apply aj_exit; refine J_exit rfl ?_)
        | (apply aj_cond; refine J_dec_f rfl ob ?_))
      refine ih (2, ps, a3, c3) _ _ ⟨hs, hpo, hinv2, by show 2 ≤ 2; decide⟩ (by show 2 - 2 < 2 - 1; decide) (by repeat' (first | exact trivial | exact rfl | apply And.intro))
  · repeat' (first
      | (apply JL_nil)
      | ((apply JL_pure); (first
      | (apply as_assign; exact OpR_assign rfl is_rfl)
      | (apply as_binOp; exact OpR_ibin rfl rfl rfl is_rfl)); first | (exact rfl; exact rfl) | exact rfl)
      | (apply J_seq)
      | (apply J_region)
      | (apply aj_exit; refine J_exit rfl ?_)
      | (apply aj_cond; refine J_dec_f rfl ob ?_))
    refine J_leave Tryz.func3 rfl (.tmp rfl .nil) ⟨rfl, hs.frm.ext⟩
end Go.Eng
