/- The texts L30, joined. -/
import Derived.Test.YtcoldgkhlkjjmaaY3
/- LookupTells. -/
namespace Go.Eng
open Go.Proofs
set_option linter.unusedSimpArgs false
set_option linter.unusedVariables false
theorem aj_condt (t : Nat) {P : Program} {f : FuncId} {ro : Option Nat} {n : Nat} {R : Value → World → Prop} {k : List Item} {ds : List Deferred} {env : Env} {w : World} {x y : Code} (h : J P f ro n R (.code (.cond (.tmp t) x y) :: k) ds env w) : J P f ro n R (.code (.cond (.tmp t) x y) :: k) ds env w := h
theorem aj_reg (id : Nat) {P : Program} {f : FuncId} {ro : Option Nat} {n : Nat} {R : Value → World → Prop} {k : List Item} {ds : List Deferred} {env : Env} {w : World} {ops : Array Oper} {dr : Bool} (h : J P f ro n R (.code (.region id ops dr) :: k) ds env w) : J P f ro n R (.code (.region id ops dr) :: k) ds env w := h
theorem allF_le (es : List Ent) : (allF es).length ≤ 4000 := by
  unfold allF
  by_cases h : checkB es = true
  · rw [if_pos h]; exact allM_le h
  · rw [if_neg h]; simp
instance rawIds : RawTy (tSl (tInt .u64)) tS (relSl (tInt .u64)) := inferInstance
theorem OpR_storeWild1 {P : Program} {env : Env} {w0 w : World} {F : Nat → Prop} {L : List HP} {dst : Option Tmp} {ty : TypeId} {pos : String} {af : Array Edge} {gd : Option (Nat × Bool)} {T b o i : Nat} {x y : Operand} {v : Int} {rs : List REnt} {r : REnt} (hs : St w0 F w (Wild rs :: L)) (hx : ev env x = some (.pointer (some ⟨b, o + i * 1, none⟩))) (hy : ev env y = some (.int .u64 v)) [Z : Sz P T 1] (hr : r ∈ rs) (hb : r.2.1.1 = some ⟨b, o, none⟩) (hi : i < r.2.1.2.1) :
    OpR P env ⟨dst, .store T x y, ty, pos, af, gd⟩ w (fun _ w' => St w0 F w' (Wild rs :: L)) := by
  rw [Nat.mul_one] at hx
  exact OpR_storeWild hs hx hy hr hb hi
theorem St.wildCell1 {w0 w : World} {F : Nat → Prop} {L : List HP} {rs : List REnt} (h : St w0 F w (Wild rs :: L)) {r : REnt} (hr : r ∈ rs) {b o i : Nat} (hb : r.2.1.1 = some ⟨b, o, none⟩) (hi : i < r.2.1.2.1) : ∃ x, w.cell? ⟨b, o + i * 1, none⟩ = some (.int .u64 x) := by
  rw [Nat.mul_one]; exact h.wildCell hr hb hi
attribute [local irreducible] Hold J JL JD JX JXat OpR OpG Ret RetV Is Blk Row MapC
set_option maxRecDepth 100000
set_option maxHeartbeats 1000000
theorem lookupTells_w (w : World) (a : Option Addr) (n c : Nat) (es : List Ent) (at_ : Option Addr) (m mc : Nat) (tss : List (List Int)) (h : Sl dEnt All w a n c es) (ht : Sl (tSl (tInt .u64)) All w at_ m mc tss) :
    Ret Try.prog 3 #[.agg #[.slice a n c], .slice at_ m mc] w fun v w' => v = .bool true ∧ Ext w w' := by
  refine Ret_of (l := [_, _]) Try.func3 rfl Try.ntmps3 (by simp) ?_
  have hs := St.init w
  obtain ⟨E, hEd⟩ : ∃ E, E = ownM es := ⟨_, rfl⟩
  have hE130 : E.length ≤ 130 := by rw [hEd]; exact ownM_len es
  obtain ⟨Us, hX⟩ : ∃ Us, Us = allF E := ⟨_, rfl⟩
  have hX4 : Us.length ≤ 4000 := by rw [hX]; exact allF_le E
  obtain ⟨bb, hcb⟩ : ∃ bb, checkB E = bb := ⟨_, rfl⟩
  have hrc : rightM E = bb := by rw [right_check]; exact hcb
  repeat' (first
    | ((apply aj_condt 24; refine J_cutK (γ := List ZE × Option Addr × Nat) [(1, _), (2, _), (5, _), (6, _)] (by repeat' (first | exact trivial | exact rfl | apply And.intro)) (fun g => [(7, .slice g.2.1 Us.length g.2.2)]) (fun g w' => St w NoF w' [TabRow g.2.1 Us.length g.2.2 (g.1.map Prod.fst), TabRow a1 E.length c1 rs, Own rs E, Blk b5 (.cells #[.slice a1 E.length c1] 24 (0, 0)), Blk b2 (.cells #[.slice a n c] 24 (0, 0))] ∧ (∀ p ∈ g.1, p ∈ rs.zip E) ∧ g.1.map Prod.snd = Us) (fun RR kk hcont => hold ?_) (hold ?_)))
    | ((apply al_none (t := 18); refine JL_o (OpR_callF en11 rfl (wakes_r _)) rfl rfl ?_; rintro _ _ ⟨rfl, hE⟩; have hs := hs.ext hE))
    | ((apply al_call 12; refine JL_o (by exact OpR_callF en12 rfl (own_r _ a n c es (h.st hs))) rfl rfl ?_; rintro _ _ ⟨rs, a1, c1, rfl, hf⟩; rw [← hEd] at hf ⊢; have hs := hs.fresh hf; (try simp only [List.cons_append, List.nil_append] at hs)))
    | ((apply al_call 13; refine JL_o (by exact OpR_callF en13 rfl (right7_r _ a1 E.length c1 E (slOwn (rs := rs) hs (by repeat (first | exact List.Mem.head _ | apply List.Mem.tail)) (by repeat (first | exact List.Mem.head _ | apply List.Mem.tail))) (by omega))) rfl rfl ?_; rintro _ _ ⟨rfl, hE⟩; rw [hrc]; have hs := hs.ext hE; (try simp only [List.cons_append, List.nil_append] at hs)))
    | (apply JL_nil)
    | ((apply JL_pure); (first
      | (apply as_move; exact OpR_move rfl is_rfl)
      | (apply as_assign; exact OpR_assign rfl is_rfl)
      | (apply as_load; exact OpR_load_agg' hs rfl is_rfl)
      | (apply as_unOp; exact OpR_not rfl is_rfl)); first | (exact rfl; exact rfl) | exact rfl)
    | (apply J_seq)
    | (apply J_region)
    | (apply J_skip)
    | (apply al_none (t := 2); refine JL_o (by apply as_box; exact OpR_box' hs rfl) rfl rfl ?_; rintro _ _ ⟨b2, rfl, hb2, hs, hE⟩)
    | (apply al_none (t := 5); refine JL_o (by apply as_alloc; exact OpR_alloc' hs) rfl rfl ?_; rintro _ _ ⟨b5, rfl, hb5, hs, hE⟩)
    | (apply al_unit; refine JL_u (by apply as_store; exact OpR_store' hs rfl rfl rfl) rfl ?_; rintro _ _ ⟨hs, hF⟩)
    | (apply aj_cond; refine J_cond_f rfl gb ?_))
  · refine unhold ?_
    cases bb with
    | true =>
      have hXt : Us = allM E := by rw [hX]; unfold allF; rw [if_pos hcb]
      repeat' (first
        | ((apply al_call 14; refine JL_o (by exact OpR_callF en14 rfl (all7_r _ a1 E.length c1 rs E (rowSl (hs.row a1 E.length c1) (St.ownV (rs := rs) (es := E) hs (by repeat (first | exact List.Mem.head _ | apply List.Mem.tail))).ok) ((St.ownV (rs := rs) (es := E) hs (by repeat (first | exact List.Mem.head _ | apply List.Mem.tail))).mean.weak (fun _ _ => trivial)) (by omega))) rfl rfl ?_; rintro _ _ ⟨zs, a7, c7, hzm, hz, rfl, hf⟩; rw [← hXt] at hzm hf ⊢; have hs := hs.fresh hf; (try simp only [List.cons_append, List.nil_append] at hs)))
        | (apply JL_nil)
        | ((apply JL_pure); (first
      | (apply as_assign; exact OpR_assign rfl is_rfl)
      | (apply as_load; exact OpR_load_agg' hs rfl is_rfl)); first | (exact rfl; exact rfl) | exact rfl)
        | (apply J_region)
        | (apply aj_cond; refine J_cond_t rfl gb ?_))
      refine hcont (zs, a7, c7) _ _ ⟨hs.sel [0, 2, 3, 1, 4] (by decide), hz, hzm⟩ (by repeat' (first | exact trivial | exact rfl | apply And.intro))
    | false =>
      have hXf : Us = [] := by rw [hX]; unfold allF; rw [if_neg (by rw [hcb]; decide)]
      repeat' (first
        | (apply J_skip)
        | (apply aj_cond; refine J_cond_f rfl gb ?_))
      have hs := hs.nilRow 39 3
      rw [hXf] at hcont
      refine hcont ([], none, 0) _ _ ⟨hs.sel [0, 2, 3, 1, 4] (by decide), (fun p hp => (by cases hp)), rfl⟩ (by repeat' (first | exact trivial | exact rfl | apply And.intro))
  · refine unhold ?_
    rintro ⟨zs, a7, c7⟩ w2 ⟨hs1, hz, hzm⟩
    dsimp only at hs1 hz hzm ⊢
    have hs : St w NoF w2 [_, _, _, _, _] := hs1
    have hXX : decide (Us = Us) = true := decide_eq_true rfl
    have h34 : ∀ {W : World} {LL : List HP}, St w NoF W LL → Sl (tSl (tInt .u64)) All W at_ m mc tss := fun hs => ht.st hs
    obtain ⟨ids, hir, him⟩ := Sl.raw (D := rawIds) ht
    have hil := hir.len
    have htl := ht.len
    have hmx : m ≤ 9223372036854775807 := by have h1 := ht.le; have h2 := ht.cap; unfold maxLen at h2; omega
    obtain ⟨cde, hcde⟩ : ∃ cde : Int, cde = if checkB E then 0 else 170 := ⟨_, rfl⟩
    have hcd : (bb = true ∧ cde = 0) ∨ (bb = false ∧ cde = 170) := by
      cases bb
      · right; rw [hcde, hcb]; exact ⟨rfl, rfl⟩
      · left; rw [hcde, hcb]; exact ⟨rfl, rfl⟩
    have hbn : (decide (cde = 0) != bb) = false := by rcases hcd with ⟨h1, h2⟩ | ⟨h1, h2⟩ <;> rw [h1, h2] <;> decide
    have hbn2 : (decide (cde ≠ 0) && decide (cde ≠ 170)) = false := by rcases hcd with ⟨h1, h2⟩ | ⟨h1, h2⟩ <;> rw [h2] <;> decide
    have hc2 : cde = 0 ∨ cde = 170 := by omega
    have hnl : decide ((Us.length : Int) ≠ (Us.length : Int)) = false := decide_eq_false (by omega)
    repeat' (first
      | ((apply aj_reg 10; refine J_cutK (γ := Unit) [(1, _), (2, _), (5, _), (7, _), (8, _)] (by repeat' (first | exact trivial | exact rfl | apply And.intro)) (fun _ => [(55, .bool false)]) (fun _ w' => St w NoF w' [TabRow a8 Us.length c8 rs8, Own rs8 Us, TabRow a7 Us.length c7 (zs.map Prod.fst), TabRow a1 E.length c1 rs, Own rs E, Blk b5 (.cells #[.slice a1 E.length c1] 24 (0, 0)), Blk b2 (.cells #[.slice a n c] 24 (0, 0))]) (fun RR kk hcont => hold ?_) (hold ?_)))
      | ((apply al_call 15; refine JL_o (by exact OpR_callF en15 rfl (all_r _ a1 E.length c1 E (slOwn (rs := rs) hs (by repeat (first | exact List.Mem.head _ | apply List.Mem.tail)) (by repeat (first | exact List.Mem.head _ | apply List.Mem.tail))) (by omega))) rfl rfl ?_; rintro _ _ ⟨a8, c8, rs8, rfl, hf⟩; rw [← hX] at hf ⊢; have hs := hs.fresh hf; (try simp only [List.cons_append, List.nil_append] at hs)))
      | ((apply al_call 16; refine JL_o (by exact OpR_callF en16 rfl (lcheck_r _ a1 E.length c1 E (slOwn (rs := rs) hs (by repeat (first | exact List.Mem.head _ | apply List.Mem.tail)) (by repeat (first | exact List.Mem.head _ | apply List.Mem.tail))) (by omega))) rfl rfl ?_; rintro _ _ ⟨rfl, hE⟩; rw [← hcde]; have hs := hs.ext hE; (try simp only [List.cons_append, List.nil_append] at hs)))
      | (apply JL_nil)
      | ((apply JL_pure); (first
      | (apply as_assign; exact OpR_assign rfl is_rfl)
      | (apply as_load; exact OpR_load_agg' hs rfl is_rfl)); first | (exact rfl; exact rfl) | exact rfl)
      | (apply J_seq)
      | (apply J_region))
    · refine unhold ?_
      repeat' (first
        | ((apply al_callg 17; refine JL_o_on rfl gb (by exact OpR_callF en17 rfl (same7_r _ a8 a7 Us.length c8 Us.length c7 Us Us (slOwn (rs := rs8) hs (by repeat (first | exact List.Mem.head _ | apply List.Mem.tail)) (by repeat (first | exact List.Mem.head _ | apply List.Mem.tail))) (sl7 (rs := rs) (es := E) hs (by repeat (first | exact List.Mem.head _ | apply List.Mem.tail)) (by repeat (first | exact List.Mem.head _ | apply List.Mem.tail)) hz hzm) (by omega))) rfl rfl ?_; rintro _ _ ⟨rfl, hE⟩; rw [hXX]; have hs := hs.ext hE; (try simp only [List.cons_append, List.nil_append] at hs)))
        | ((apply al_callg 18; refine JL_o_on rfl gb (by exact OpR_callF en18 rfl (many_r _ a1 E.length c1 E (slOwn (rs := rs) hs (by repeat (first | exact List.Mem.head _ | apply List.Mem.tail)) (by repeat (first | exact List.Mem.head _ | apply List.Mem.tail))) (by omega))) rfl rfl ?_; rintro _ _ ⟨rfl, hE⟩; rw [← hX]; have hs := hs.ext hE; (try simp only [List.cons_append, List.nil_append] at hs)))
        | (apply JL_nil)
        | ((first | (apply JL_pure) | (apply JL_pure_on; exact rfl; exact gb)); (first
      | (apply as_move; exact OpR_move rfl is_rfl)
      | (apply as_load; exact OpR_load_agg' hs rfl is_rfl)
      | (apply as_binOp; first | exact OpR_ibin rfl rfl rfl is_rfl | exact OpR_bne rfl rfl is_rfl)
      | (apply as_unOp; exact OpR_not rfl is_rfl)
      | (apply as_pick; first | exact OpR_pick_t rfl gb rfl is_rfl | exact OpR_pick_f rfl gb rfl is_rfl)
      | (apply as_b_len; exact OpR_len rfl is_rfl)); first | (exact rfl; exact rfl) | exact rfl)
        | (apply J_region)
        | (apply al_guard; first
    | (refine JL_no rfl gb rfl ?_)
    | ((fail_if_success (apply JL_o_on rfl gb)); first | (refine JL_split_dec rfl (fun _ => ?_) (fun _ => ?_)) | (refine JL_split rfl (fun _ => ?_) (fun _ => ?_)))))
      all_goals (rw [hnl]; exact hcont () _ _ hs (by repeat' (first | exact trivial | exact rfl | apply And.intro)))
    · refine unhold ?_
      rintro _ w2 hs1
      have hs : St w NoF w2 [_, _, _, _, _, _, _] := hs1
      repeat' (first
        | ((apply aj_block 0; refine J_cutK (γ := Unit) [(2, _), (5, _), (7, _), (8, _), (56, _), (57, _)] (by repeat' (first | exact trivial | exact rfl | apply And.intro)) (fun _ => []) (fun _ w' => St w NoF w' [Own rs8 Us, TabRow a8 Us.length c8 rs8, TabRow a1 E.length c1 rs, Own rs E, Blk b5 (.cells #[.slice a1 E.length c1] 24 (0, 0)), Blk b2 (.cells #[.slice a n c] 24 (0, 0))]) (fun RR kk hcont => hold ?_) (hold ?_)))
        | (apply JL_nil)
        | ((apply JL_pure); (first
      | (apply as_move; exact OpR_move rfl is_rfl)
      | (apply as_b_len; exact OpR_len rfl is_rfl)); first | (exact rfl; exact rfl) | exact rfl)
        | (apply J_seq)
        | (apply J_region)
        | (apply J_skip)
        | (apply aj_cond; refine J_cond_f rfl gb ?_))
      · refine unhold ?_
        repeat' (first
          | (apply J_block))
        refine J_loopK (α := Nat) [(2, _), (5, _), (7, _), (8, _), (56, _), (57, _)] (fun k => [(58, .int .i64 k)]) (fun k w' => St w NoF w' [TabRow a8 Us.length c8 rs8, Own rs8 Us, TabRow a7 Us.length c7 (zs.map Prod.fst), TabRow a1 E.length c1 rs, Own rs E, Blk b5 (.cells #[.slice a1 E.length c1] 24 (0, 0)), Blk b2 (.cells #[.slice a n c] 24 (0, 0))] ∧ k ≤ m ∧ k ≤ 8) (fun k => m - k) 0 ⟨hs, by omega, by omega⟩ (by repeat' (first | exact trivial | exact rfl | apply And.intro)) ?_
        rintro k w3 ⟨hs1, hk, hk8⟩ ih
        by_cases hlt : k < m
        · obtain ⟨p, o, rfl⟩ := hir.sl.addr (by omega)
          have hs : St w NoF w3 [_, _, _, _, _, _, _] := hs1
          have hx : tss[k]? = some (tss[k]'(by omega)) := List.getElem?_eq_getElem (by omega)
          obtain ⟨t, htd⟩ : ∃ t, t = tss[k]'(by omega) := ⟨_, rfl⟩
          rw [← htd] at hx
          obtain ⟨r, hrx, hrel⟩ := him.get hx
          have mx : Sl (tInt .u64) All w r.1 r.2.1 r.2.2 t := hrel
          by_cases h8 : k = 8
          · repeat' (first
              | (apply JL_nil)
              | ((apply JL_pure); (first
      | (apply as_load; first | exact OpR_load' hs rfl rfl is_rfl | exact OpR_load_agg' hs rfl is_rfl | exact OpR_load_el1 (i := k) (j := 0) (hir.st hs) hrx rfl rfl rfl is_rfl)
      | (apply as_move; exact OpR_move rfl is_rfl)
      | (apply as_assign; exact OpR_assign rfl is_rfl)
      | (apply as_binOp; exact OpR_ibin rfl rfl rfl is_rfl)
      | (apply as_indexAddr; exact OpR_indexAddr rfl rfl (by omega) (by omega) is_rfl)); first | (exact rfl; exact rfl) | exact rfl)
              | (apply J_seq)
              | (apply J_region)
              | (apply J_block)
              | (apply aj_exit; refine J_exit rfl ?_)
              | (apply J_skip)
              | (apply aj_cond; refine J_dec_t rfl ob ?_))
            refine hcont () _ _ (hs.sel [1, 0, 3, 4, 5, 6] (by decide)) (by repeat' (first | exact trivial | exact rfl | apply And.intro))
          · obtain ⟨q, hq⟩ : ∃ q, q = min r.2.1 14 := ⟨_, rfl⟩
            have hq1 : q ≤ r.2.1 := by omega
            have mcut := mx.cut q hq1
            have hmn := mx.len
            have hmcap := mx.le
            obtain ⟨tt, htt⟩ : ∃ tt, tt = t.take q := ⟨_, rfl⟩
            rw [← htt] at mcut
            obtain ⟨fv, hfv⟩ : ∃ fv, fv = find7M Us tt := ⟨_, rfl⟩
            have hfind : findM E tt = (max fv 0, decide (0 ≤ fv)) := by rw [find_all, ← hX, ← hfv]
            have hbb : (decide (0 ≤ fv) != decide (fv ≥ 0)) = false := by simp
            repeat' (first
              | ((apply ax_c; apply JX_cF 19; exact rfl; (intro W X hN hs; exact OpR_callF en19 rfl (find_r _ a1 E.length c1 E r.1 q r.2.2 tt (slOwn (rs := rs) hs (by repeat (first | exact List.Mem.head _ | apply List.Mem.tail)) (by repeat (first | exact List.Mem.head _ | apply List.Mem.tail))) (by omega) (mcut.st hs))); (rintro _ _ _ _ ⟨rfl, hE⟩; first | exact hE | exact Fresh.ext hf); rintro W X _ _ hN hs ⟨rfl, hE⟩; rw [hfind]; have hs := hs.ext hE; (try simp only [List.cons_append, List.nil_append] at hs); refine JX.at hs ?_))
              | ((apply al_call 20; refine JL_o (by exact OpR_callF en20 rfl (find7_r _ a7 Us.length c7 Us r.1 q r.2.2 tt (sl7 (rs := rs) (es := E) hs (by repeat (first | exact List.Mem.head _ | apply List.Mem.tail)) (by repeat (first | exact List.Mem.head _ | apply List.Mem.tail)) hz hzm) (by omega) (mcut.st hs))) rfl rfl ?_; rintro _ _ ⟨rfl, hE⟩; rw [← hfv]; have hs := hs.ext hE; (try simp only [List.cons_append, List.nil_append] at hs)))
              | (apply JL_nil)
              | ((first | (apply JL_pure) | (apply JL_pure_on; exact rfl; exact gb) | (apply JX_f; exact rfl; intro W X hs)); (first
      | (apply as_slice; exact OpR_slice (kl := .i64) (kh := .i64) (km := .i64) (a' := r.1) (m := r.2.2) (h := min (r.2.1 : Int) 14) rfl (.inl ⟨rfl, rfl⟩) (.inr ⟨_, rfl, rfl⟩) (.inl ⟨rfl, rfl⟩) (by omega) (by omega) (by omega) (by omega) (by split; rfl; exact addr0 _) (by rw [show (min (r.2.1 : Int) 14 - 0).toNat = q by omega, Int.sub_zero, Int.toNat_natCast]; exact is_rfl))
      | (apply as_load; first | exact OpR_load' hs rfl rfl is_rfl | exact OpR_load_agg' hs rfl is_rfl | exact OpR_load_el1 (i := k) (j := 0) (hir.st hs) hrx rfl rfl rfl is_rfl)
      | (apply as_move; exact OpR_move rfl is_rfl)
      | (apply as_assign; exact OpR_assign rfl is_rfl)
      | (apply as_add; exact OpR_addn rfl rfl (by omega) (by first | (simp only [Int.reduceAdd]; exact rfl) | exact rfl) is_rfl)
      | (apply as_binOp; first | exact OpR_ibin rfl rfl rfl is_rfl | exact OpR_bne rfl rfl is_rfl)
      | (apply as_pick; exact OpR_pick_f rfl gb rfl is_rfl)
      | (apply as_b_len; exact OpR_len rfl is_rfl)
      | (apply as_extract; exact OpR_extract rfl rfl is_rfl)
      | (apply as_b_min; exact OpR_min rfl rfl is_rfl)
      | (apply as_b_max; exact OpR_max rfl rfl is_rfl)
      | (apply as_indexAddr; exact OpR_indexAddr rfl rfl (by omega) (by omega) is_rfl)); first | (exact rfl; exact rfl) | exact rfl)
              | (apply J_seq)
              | (apply J_region)
              | (apply J_block)
              | (apply J_inBlock)
              | (apply J_skip)
              | (apply aj_cond; first | refine J_dec_t rfl ob ?_ | refine J_dec_f rfl ob ?_)
              | (apply aj_draw; (refine J_drawX (id := 16) [0, 0, 0, 4, 12, 30, 63, 127, 255, 255, 511, 2047] [(0, 0), (1, 0), (2, 0), (3, 0), (4, 0), (5, 0), (6, 1), (7, 0), (8, 0), (9, 0), (10, 0), (11, 0)] [] hs mixed (by kernel_rfl) (by kernel_rfl) (by kernel_rfl) (by kernel_rfl) (by kernel_rfl) ?_))
              | (refine JX_done (fun W hs => ?_))
              | (apply JD_done))
            refine ih (k + 1) _ _ ⟨hs, by omega, by omega⟩ (by omega) (by repeat' (first | exact trivial | exact rfl | apply And.intro))
        · have hs : St w NoF w3 [_, _, _, _, _, _, _] := hs1
          repeat' (first
            | (apply JL_nil)
            | ((apply JL_pure); (apply as_binOp; exact OpR_ibin rfl rfl rfl is_rfl); first | (exact rfl; exact rfl) | exact rfl)
            | (apply J_seq)
            | (apply J_region)
            | (apply aj_exit; refine J_exit rfl ?_)
            | (apply aj_cond; refine J_dec_f rfl ob ?_))
          refine hcont () _ _ (hs.sel [1, 0, 3, 4, 5, 6] (by decide)) (by repeat' (first | exact trivial | exact rfl | apply And.intro))
      · refine unhold ?_
        rintro _ w2 hs1
        have hs : St w NoF w2 [_, _, _, _, _, _] := hs1
        have ho8 : OwnV w2 rs8 Us := St.ownV hs (by repeat (first | exact List.Mem.head _ | apply List.Mem.tail))
        have hl8 : rs8.length = Us.length := ho8.1
        have hpl8 : ∀ r ∈ rs8, 0 < r.2.1.2.1 → ∃ b o, r.2.1.1 = some ⟨b, o, none⟩ := fun r hr hp => by
          obtain ⟨i, hi⟩ := List.mem_iff_getElem?.1 hr
          have hlt := (List.getElem?_eq_some_iff.1 hi).1
          obtain ⟨⟨_, _, h3, _, _⟩, h4, _⟩ := ho8.2 i r _ hi (List.getElem?_eq_getElem (by omega))
          exact h4.some (by rw [h3] at hp; exact hp)
        have hrl : ∀ r ∈ rs8, r.2.1.2.1 ≤ 9223372036854775807 := fun r hr => by
          obtain ⟨i, hi⟩ := List.mem_iff_getElem?.1 hr
          have hlt := (List.getElem?_eq_some_iff.1 hi).1
          obtain ⟨⟨_, _, h3, _, _⟩, h4, _⟩ := ho8.2 i r _ hi (List.getElem?_eq_getElem (by omega))
          have h5 := h4.2.1
          have h6 := h4.2.2.1
          unfold maxLen at h6
          omega
        have hs := St.toWild hs
        repeat' (first
          | (apply JL_nil)
          | ((apply JL_pure); (first
      | (apply as_move; exact OpR_move rfl is_rfl)
      | (apply as_b_len; exact OpR_len rfl is_rfl)); first | (exact rfl; exact rfl) | exact rfl)
          | (apply J_seq)
          | (apply J_region)
          | (apply J_block))
        refine J_loopK (α := Nat) [(2, _), (5, _), (93, _), (94, _)] (fun j => [(95, .int .i64 j)]) (fun j w' => St w NoF w' [Wild rs8, TabRow a8 Us.length c8 rs8, TabRow a1 E.length c1 rs, Own rs E, Blk b5 (.cells #[.slice a1 E.length c1] 24 (0, 0)), Blk b2 (.cells #[.slice a n c] 24 (0, 0))] ∧ j ≤ Us.length) (fun j => Us.length - j) 0 ⟨hs, by omega⟩ (by repeat' (first | exact trivial | exact rfl | apply And.intro)) ?_
        rintro j w3 ⟨hs1, hj⟩ ih
        by_cases hlt : j < Us.length
        · have hs : St w NoF w3 [_, _, _, _, _, _] := hs1
          obtain ⟨p8, o8, rfl⟩ := (hs.row a8 Us.length c8).some (by omega)
          have hs : St w NoF w3 [_, _, _, _, _, _] := hs1
          have hx : rs8[j]? = some (rs8[j]'(by omega)) := List.getElem?_eq_getElem (by omega)
          obtain ⟨r, hrd⟩ : ∃ r, r = rs8[j]'(by omega) := ⟨_, rfl⟩
          rw [← hrd] at hx
          have hrm := List.mem_of_getElem? hx
          have hld : ∀ (q : Nat) (u : Value), (cREnt r)[q]? = some u → (encL cREnt rs8)[j * 3 + q]? = some u := fun q u hq => by
            have hq3 : q < 3 := (List.getElem?_eq_some_iff.1 hq).1
            rw [show (encL cREnt rs8)[j * 3 + q]? = (cREnt r)[q]? from encL_get (d := dREnt) rs8 j q r hx hq3]; exact hq
          repeat' (first
            | (apply JL_nil)
            | ((apply JL_pure); (first
      | (apply as_load; first | exact OpR_load' hs rfl rfl is_rfl | exact OpR_load_agg' hs rfl is_rfl | exact OpR_loadN (b := p8) (o := o8) (off := j * 3) (n := Us.length) (c := c8) hs rfl rfl hld is_rfl)
      | (apply as_move; exact OpR_move rfl is_rfl)
      | (apply as_fieldAddr; exact OpR_fieldAddr0 rfl rfl is_rfl)
      | (apply as_binOp; exact OpR_ibin rfl rfl rfl is_rfl)
      | (apply as_b_len; exact OpR_len rfl is_rfl)
      | (apply as_indexAddr; exact OpR_indexAddr rfl rfl (by omega) (by omega) is_rfl)); first | (exact rfl; exact rfl) | exact rfl)
            | (apply J_seq)
            | (apply J_region)
            | (apply J_block)
            | (apply J_skip)
            | (apply al_none (t := 16); refine JL_o (by apply as_alloc; exact OpR_alloc' hs) rfl rfl ?_; rintro _ _ ⟨b16, rfl, hb16, hs, hE⟩)
            | (apply al_unit; refine JL_u (by apply as_store; exact OpR_store' hs rfl rfl rfl) rfl ?_; rintro _ _ ⟨hs, hF⟩)
            | (apply aj_cond; refine J_dec_t rfl ob ?_))
          refine J_loopK (α := Nat) [(2, _), (5, _), (16, _), (93, _), (94, _), (95, _), (101, _)] (fun i => [(102, .int .i64 i)]) (fun i w' => St w NoF w' [Wild rs8, Blk b16 (.cells #[.int .i64 r.1, .slice r.2.1.1 r.2.1.2.1 r.2.1.2.2, .int .i64 r.2.2] 39 (0, 0)), TabRow (some ⟨p8, o8, none⟩) Us.length c8 rs8, TabRow a1 E.length c1 rs, Own rs E, Blk b5 (.cells #[.slice a1 E.length c1] 24 (0, 0)), Blk b2 (.cells #[.slice a n c] 24 (0, 0))] ∧ i ≤ r.2.1.2.1) (fun i => r.2.1.2.1 - i) 0 ⟨hs.sel [1, 0, 2, 3, 4, 5, 6] (by decide), by omega⟩ (by repeat' (first | exact trivial | exact rfl | apply And.intro)) ?_
          rintro i w4 ⟨hs1, hi⟩ ih2
          have hs : St w NoF w4 [_, _, _, _, _, _, _] := hs1
          by_cases hir2 : i < r.2.1.2.1
          · obtain ⟨b, o, hb⟩ := hpl8 r hrm (by omega)
            obtain ⟨xv, hv⟩ := hs.wildCell1 hrm hb hir2
            rw [hb] at hs
            have hr63 : r.2.1.2.1 ≤ 9223372036854775807 := hrl r hrm
            repeat' (first
              | ((apply al_unit; have hs2 : St w NoF _ (Wild rs8 :: [Blk b16 _, TabRow _ _ _ rs8, TabRow a1 E.length c1 rs, Own rs E, Blk b5 _, Blk b2 _]) := hs; refine JL_u (by apply as_store; exact OpR_storeWild1 hs2 rfl rfl hrm hb hir2) rfl ?_; rintro _ _ hs))
              | (apply JL_nil)
              | ((apply JL_pure); (first
      | (apply as_load; first | exact OpR_load' hs rfl rfl is_rfl | exact OpR_load_cell hv rfl is_rfl)
      | (apply as_move; exact OpR_move rfl is_rfl)
      | (apply as_assign; exact OpR_assign rfl is_rfl)
      | (apply as_fieldAddr; exact OpR_fieldAddr0 rfl rfl is_rfl)
      | (apply as_add; first | exact OpR_addn rfl rfl (by omega) (by first | (simp only [Int.reduceAdd]; exact rfl) | exact rfl) is_rfl | exact OpR_ibin rfl rfl rfl is_rfl)
      | (apply as_binOp; exact OpR_ibin rfl rfl rfl is_rfl)
      | (apply as_indexAddr; exact OpR_indexAddr rfl rfl (by omega) (by omega) is_rfl)); first | (exact rfl; exact rfl) | exact rfl)
              | (apply J_seq)
              | (apply J_region)
              | (apply J_block)
              | (apply J_inBlock)
              | (apply J_skip)
              | (apply aj_cond; refine J_dec_t rfl ob ?_))
            rw [← hb] at hs
            refine ih2 (i + 1) _ _ ⟨hs, by omega⟩ (by omega) (by repeat' (first | exact trivial | exact rfl | apply And.intro))
          · repeat' (first
              | (apply JL_nil)
              | ((apply JL_pure); (first
      | (apply as_move; exact OpR_move rfl is_rfl)
      | (apply as_add; exact OpR_addn rfl rfl (by omega) (by first | (simp only [Int.reduceAdd]; exact rfl) | exact rfl) is_rfl)
      | (apply as_binOp; exact OpR_ibin rfl rfl rfl is_rfl)); first | (exact rfl; exact rfl) | exact rfl)
              | (apply J_seq)
              | (apply J_region)
              | (apply J_inBlock)
              | (apply aj_exit; refine J_exit rfl ?_)
              | (apply aj_cond; refine J_dec_f rfl ob ?_))
            refine ih (j + 1) _ _ ⟨hs.sel [0, 2, 3, 4, 5, 6] (by decide), by omega⟩ (by omega) (by repeat' (first | exact trivial | exact rfl | apply And.intro))
        · have hs : St w NoF w3 [_, _, _, _, _, _] := hs1
          have hn0 : (allM (newE 8)).length = 0 := by rw [all_new]; rfl
          have hEE : decide (E = E) = true := decide_eq_true rfl
          repeat' (first
            | ((apply ax_c; apply JX_cF 12; exact rfl; (intro W X hN hs; exact OpR_callF en12 rfl (own_r _ a n c es (h.st hs))); (rintro _ _ _ _ ⟨rs2, a9, c9, rfl, hf⟩; first | exact hE | exact Fresh.ext hf); rintro W X _ _ hN hs ⟨rs2, a9, c9, rfl, hf⟩; rw [← hEd] at hf ⊢; have hs := hs.fresh hf; (try simp only [List.cons_append, List.nil_append] at hs); refine JX.at hs ?_))
            | ((apply ax_c; apply JX_cF 17; exact rfl; (intro W X hN hs; exact OpR_callF en17 rfl (same7_r _ a1 a9 E.length c1 E.length c9 E E (slOwn (rs := rs) hs (by repeat (first | exact List.Mem.head _ | apply List.Mem.tail)) (by repeat (first | exact List.Mem.head _ | apply List.Mem.tail))) (slOwn (rs := rs2) hs (by repeat (first | exact List.Mem.head _ | apply List.Mem.tail)) (by repeat (first | exact List.Mem.head _ | apply List.Mem.tail))) (by omega))); (rintro _ _ _ _ ⟨rfl, hE⟩; first | exact hE | exact Fresh.ext hf); rintro W X _ _ hN hs ⟨rfl, hE⟩; rw [hEE]; have hs := hs.ext hE; (try simp only [List.cons_append, List.nil_append] at hs); refine JX.at hs ?_))
            | ((apply ax_c; apply JX_cFg 21; exact rfl; exact rfl; exact gb; (intro W X hN hs; exact OpR_callF en21 rfl (new_r _)); (rintro _ _ _ _ ⟨a10, rfl, hf⟩; first | exact hE | exact Fresh.ext hf); rintro W X _ _ hN hs ⟨a10, rfl, hf⟩; have hs := hs.fresh hf; (try simp only [List.cons_append, List.nil_append] at hs); refine JX.at hs ?_))
            | ((apply ax_c; apply JX_cFg 14; exact rfl; exact rfl; exact gb; (intro W X hN hs; exact OpR_callF en14 rfl (all7_r _ a10 8 8 (newR 8) (newE 8) (rowSl (hs.row a10 8 8) (Go.Eng.newOwn w 8).ok) ((Go.Eng.newOwn _ 8).mean.weak (fun _ _ => trivial)) (by omega))); (rintro _ _ _ _ ⟨zs9, a11, c11, hzm9, hz9, rfl, hf⟩; first | exact hE | exact Fresh.ext hf); rintro W X _ _ hN hs ⟨zs9, a11, c11, hzm9, hz9, rfl, hf⟩; rw [hn0] at hf ⊢; have hs := hs.fresh hf; (try simp only [List.cons_append, List.nil_append] at hs); refine JX.at hs ?_))
            | (apply JL_nil)
            | ((first | (apply JL_pure) | (apply JX_f; exact rfl; intro W X hs) | (apply JX_f_on; exact rfl; exact rfl; exact gb; intro W X hs)); (first
      | (apply as_move; exact OpR_move rfl is_rfl)
      | (apply as_assign; exact OpR_assign rfl is_rfl)
      | (apply as_fieldAddr; exact OpR_fieldAddr0 rfl rfl is_rfl)
      | (apply as_load; first | exact OpR_load' hs rfl rfl is_rfl | exact OpR_load_agg' hs rfl is_rfl)
      | (apply as_binOp; exact OpR_ibin rfl rfl rfl is_rfl)
      | (apply as_pick; exact OpR_pick_t rfl gb rfl is_rfl)
      | (apply as_b_len; exact OpR_len rfl is_rfl)
      | (apply as_field; exact OpR_field rfl rfl rfl is_rfl)); first | (exact rfl; exact rfl) | exact rfl)
            | (apply J_seq)
            | (apply J_region)
            | (apply aj_exit; refine J_exit rfl ?_)
            | (apply aj_cond; refine J_dec_f rfl ob ?_)
            | (apply aj_draw; (refine J_drawX (id := 30) [0, 1, 0, 4, 12, 31, 63, 127, 255, 511, 1023, 2047, 4095, 8191, 16383, 32767, 65535, 131071, 262143] [(0, 0), (1, 0), (2, 0), (3, 1), (4, 0), (5, 1), (6, 0), (7, 1), (8, 1), (9, 0), (10, 0), (11, 0), (12, 0), (13, 1), (14, 0), (15, 0), (16, 0), (17, 0), (18, 0)] [] hs mixed (by kernel_rfl) (by kernel_rfl) (by kernel_rfl) (by kernel_rfl) (by kernel_rfl) ?_))
            | (refine JX_done (fun W hs => ?_))
            | (apply JD_done))
          refine J_leave Try.func3 rfl (.tmp rfl .nil) ⟨congrArg Value.bool (decide_eq_true rfl), hs.frm.ext⟩
end Go.Eng
