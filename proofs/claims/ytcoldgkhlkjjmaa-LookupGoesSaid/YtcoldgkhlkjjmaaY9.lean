/- The texts L46, L47, joined. -/
import Derived.Test.YtcoldgkhlkjjmaaY8
/- Lookups: what a lookup says; steps. -/
namespace Go.Eng
open Go.Proofs
set_option linter.unusedSimpArgs false
set_option linter.unusedVariables false
theorem slZ {w : World} {a : Option Addr} {n c : Nat} {zs : List ZE} (h1 : RowV w a n c 39 3 (encL cREnt (zs.map Prod.fst))) (hok : ∀ p ∈ zs, okE p.1) (hm : ∀ p ∈ zs, mEnt.rel All w p.1 p.2) : Sl dEnt All w a n c (zs.map Prod.snd) :=
  Sl.unraw (D := rawEnt) (rowSl h1 (fun r hr => by obtain ⟨p, hp, rfl⟩ := List.mem_map.1 hr; exact hok p hp)) (.of_all hm)
abbrev dStep : Ty (Bool × List Int × Int) := tPair tBool (tPair (tSl (tInt .u64)) (tInt .i64))
abbrev RStep := Bool × RS × Int
abbrev dRStep : Ty RStep := tPair tBool (tPair tS (tInt .i64))
abbrev mStep : Rel RStep (Bool × List Int × Int) := relPair (relEq Bool) (relPair (relSl (tInt .u64)) (relEq Int))
abbrev cStep (p : RStep) : List Value := [.bool p.1, .slice p.2.1.1 p.2.1.2.1 p.2.1.2.2, .int .i64 p.2.2]
theorem flatStep : FlatTy dRStep cStep (fun p => True ∧ True ∧ inK .i64 p.2.2) :=
  (inferInstance : FlatTy (tPair tBool (tPair tS (tInt .i64))) (fun p => [.bool p.1] ++ ([.slice p.2.1.1 p.2.1.2.1 p.2.1.2.2] ++ [.int .i64 p.2.2])) (fun p => True ∧ True ∧ inK .i64 p.2.2))
instance (priority := high) : FlatTy dRStep cStep (fun p => True ∧ True ∧ inK .i64 p.2.2) := flatStep
theorem rawStep : RawTy dStep dRStep mStep := inferInstance
attribute [local irreducible] Hold J JL JD JX JXat OpR OpG Ret RetV Is Blk Row MapC
set_option maxRecDepth 100000
set_option maxHeartbeats 1000000
theorem says_r (w : World) (a : Option Addr) (n c : Nat) (es : List Ent) (a2 : Option Addr) (n2 c2 : Nat) (ys : List Ent) (h : Sl dEnt All w a n c es) (hn : n ≤ 1048576) (h2 : Sl dEnt All w a2 n2 c2 ys) :
    Ret Try.prog 29 #[.agg #[.slice a n c], .slice a2 n2 c2] w fun v w' => v = .bool (checkB es && decide (allM es = ys)) ∧ Ext w w' := by
  refine Ret_of (l := [_, _]) Try.func29 rfl Try.ntmps29 (by simp) ?_
  have hs := St.init w
  obtain ⟨rs, hr, hm⟩ := Sl.raw (D := rawEnt) h
  obtain ⟨_, _, hok⟩ := hr.srcF
  have hl := h.len
  have hle : (allM es).length ≤ 1048576 := by rw [(allM_perm es).length_eq]; exact Nat.le_trans (List.length_filter_le _ _) (by omega)
  obtain ⟨bb, hbb⟩ : ∃ bb, bb = checkB es := ⟨_, rfl⟩
  have hrc : rightM es = bb := by rw [right_check, hbb]
  rw [← hbb]
  cases bb with
  | true =>
    repeat' (first
      | ((apply al_call 13; refine JL_o (by exact OpR_callF en13 rfl (right7_r _ a n c es (h.st hs) hn)) rfl rfl ?_; rintro _ _ ⟨rfl, hE⟩; rw [hrc]; have hs := hs.ext hE; (try simp only [List.cons_append, List.nil_append] at hs)))
      | ((apply al_callg 14; refine JL_o_on rfl gb (by exact OpR_callF en14 rfl (all7_r _ a n c rs es (hr.st hs) (hm.st hs) hn)) rfl rfl ?_; rintro _ _ ⟨zs, a7, c7, hzm, hz, rfl, hf⟩; have hs := hs.fresh hf; (try simp only [List.cons_append, List.nil_append] at hs)))
      | ((apply al_callg 17; refine JL_o_on rfl gb (by exact OpR_callF en17 rfl (same7_r _ a7 a2 (allM es).length c7 n2 c2 (zs.map Prod.snd) ys (slZ (hs.row a7 (allM es).length c7) (fun p hp => hok _ (List.of_mem_zip (hz p hp)).1) (fun p hp => (hm.st hs).zip p (hz p hp))) (h2.st hs) (by omega))) rfl rfl ?_; rintro _ _ ⟨rfl, hE⟩; rw [hzm]; have hs := hs.ext hE; (try simp only [List.cons_append, List.nil_append] at hs)))
      | (apply JL_nil)
      | ((first | (apply JL_pure) | (apply JL_pure_on; exact rfl; exact gb)); (first
      | (apply as_move; exact OpR_move rfl is_rfl)
      | (apply as_assign; exact OpR_assign rfl is_rfl)
      | (apply as_load; exact OpR_load_agg' hs rfl is_rfl)
      | (apply as_pick; exact OpR_pick_t rfl gb rfl is_rfl)); first | (exact rfl; exact rfl) | exact rfl)
      | (apply J_seq)
      | (apply J_region)
      | (apply al_none (t := 2); refine JL_o (by apply as_box; exact OpR_box' hs rfl) rfl rfl ?_; rintro _ _ ⟨b2, rfl, hb2, hs, hE⟩))
    refine J_leave Try.func29 rfl (.tmp rfl .nil) ⟨by rw [Bool.true_and]; rfl, hs.frm.ext⟩
  | false =>
    repeat' (first
      | ((apply al_call 13; refine JL_o (by exact OpR_callF en13 rfl (right7_r _ a n c es (h.st hs) hn)) rfl rfl ?_; rintro _ _ ⟨rfl, hE⟩; rw [hrc]; have hs := hs.ext hE; (try simp only [List.cons_append, List.nil_append] at hs)))
      | (apply JL_nil)
      | ((apply JL_pure); (first
      | (apply as_move; exact OpR_move rfl is_rfl)
      | (apply as_assign; exact OpR_assign rfl is_rfl)
      | (apply as_load; exact OpR_load_agg' hs rfl is_rfl)
      | (apply as_pick; exact OpR_pick_f rfl gb rfl is_rfl)); first | (exact rfl; exact rfl) | exact rfl)
      | (apply J_seq)
      | (apply J_region)
      | (apply al_none (t := 2); refine JL_o (by apply as_box; exact OpR_box' hs rfl) rfl rfl ?_; rintro _ _ ⟨b2, rfl, hb2, hs, hE⟩)
      | (apply al_guard; (refine JL_no rfl gb rfl ?_)))
    refine J_leave Try.func29 rfl (.tmp rfl .nil) ⟨rfl, hs.frm.ext⟩
end Go.Eng
/- LookupGoes. -/
namespace Go.Eng
open Go.Proofs
set_option linter.unusedSimpArgs false
set_option linter.unusedVariables false
theorem drop_bad (w : World) (a : Option Addr) (n c : Nat) (es : List Ent) (a2 : Option Addr) (n2 c2 : Nat) (t : List Int) (h : Sl dEnt All w a n c es) (hn : n ≤ 1048576) (h2 : Sl (tInt .u64) All w a2 n2 c2 t) (hd : dropE es t ≠ 0) :
    Ret Try.prog 27 #[.agg #[.slice a n c], .slice a2 n2 c2] w fun u w' => u = .tuple #[.agg #[.slice none 0 0], .int .i64 (dropE es t)] ∧ Ext w w' :=
  (drop_r w a n c es a2 n2 c2 t h hn h2).mono fun u w' hh => by
    rcases hh with ⟨_, h1⟩ | ⟨h1, _⟩
    · exact h1
    · exact absurd h1 hd
theorem aj_condt (t : Nat) {P : Program} {f : FuncId} {ro : Option Nat} {n : Nat} {R : Value → World → Prop} {k : List Item} {ds : List Deferred} {env : Env} {w : World} {x y : Code} (h : J P f ro n R (.code (.cond (.tmp t) x y) :: k) ds env w) : J P f ro n R (.code (.cond (.tmp t) x y) :: k) ds env w := h
theorem slT {w0 w : World} {L : List HP} {a : Option Addr} {q c : Nat} {tt : List Int} (hs : St w0 NoF w L) (h3 : Row a q c 41 1 (u64s' tt) ∈ L) (hin : ∀ u ∈ tt, inK .u64 u) : Sl (tInt .u64) All w a q c tt := (RowV.sl (hs.all _ h3) hin).weak (fun _ _ => trivial)
theorem tabR {w0 w : World} {L : List HP} {a : Option Addr} {n c : Nat} {rs : List REnt} (hs : St w0 NoF w L) (h1 : TabRow a n c rs ∈ L) (hok : ∀ r ∈ rs, okE r) : Sl dREnt All w a n c rs := rowSl (hs.all _ h1) hok
theorem zip_fst_snd {α β : Type} : ∀ (l : List (α × β)), (l.map Prod.fst).zip (l.map Prod.snd) = l
  | [] => rfl
  | x :: l => by rw [List.map_cons, List.map_cons, List.zip_cons_cons, zip_fst_snd l]
theorem slWant {w0 w : World} {L : List HP} {a at_ : Option Addr} {c q ct : Nat} {rs : List REnt} {E : List Ent} {zs : List ZE} {tt : List Int} {v : Int} (hs : St w0 NoF w L) (h1 : TabRow a zs.length c (zs.map Prod.fst) ∈ L) (h2 : Own rs E ∈ L) (h3 : Row at_ q ct 41 1 (u64s' tt) ∈ L) (hin : ∀ u ∈ tt, inK .u64 u) (hv : inK .i64 v)
    (hz : ∀ p ∈ zs, p ∈ rs.zip E ∨ p = ((1, (at_, q, ct), v), (1, tt, v))) : Sl dEnt All w a zs.length c (zs.map Prod.snd) := by
  have ho : OwnV w rs E := hs.all _ h2
  have hm : MeanV mEnt All w rs E := ho.mean.weak (fun _ _ => trivial)
  have ht : Sl (tInt .u64) All w at_ q ct tt := (RowV.sl (hs.all _ h3) hin).weak (fun _ _ => trivial)
  refine slZ (hs.all _ h1) (fun p hp => ?_) (fun p hp => ?_)
  · rcases hz p hp with e | e
    · exact ho.ok _ (List.of_mem_zip e).1
    · subst e; exact ⟨by show inK .i64 1; unfold inK; decide, trivial, hv⟩
  · rcases hz p hp with e | e
    · exact hm.zip p e
    · subst e; exact ⟨rfl, ht, rfl⟩
attribute [local irreducible] Hold J JL JD JX JXat OpR OpG Ret RetV Is Blk Row MapC
set_option maxRecDepth 100000
set_option maxHeartbeats 1000000
theorem lookupGoes_w (w : World) (a : Option Addr) (n c : Nat) (es : List Ent) (as_ : Option Addr) (m mc : Nat) (ss : List (Bool × List Int × Int)) (h : Sl dEnt All w a n c es) (hst : Sl dStep All w as_ m mc ss) :
    Ret Try.prog 4 #[.agg #[.slice a n c], .slice as_ m mc] w fun v w' => v = .bool true ∧ Ext w w' := by
  refine Ret_of (l := [_, _]) Try.func4 rfl Try.ntmps4 (by simp) ?_
  have hs := St.init w
  obtain ⟨E0, hE0⟩ : ∃ E, E = ownM es := ⟨_, rfl⟩
  have hE130 : E0.length ≤ 130 := by rw [hE0]; exact ownM_len es
  obtain ⟨bb, hcb⟩ : ∃ bb, checkB E0 = bb := ⟨_, rfl⟩
  have hrc : rightM E0 = bb := by rw [right_check]; exact hcb
  have ht0 : ∀ x ∈ E0, x.2.1.length ≤ 4000000000 := fun x hx => by
    rw [hE0] at hx
    unfold ownM at hx
    obtain ⟨y, _, rfl⟩ := List.mem_map.1 hx
    unfold cutE
    simp only [List.length_take]
    omega
  obtain ⟨sts, hsr, hsm⟩ := Sl.raw (D := rawStep) hst
  obtain ⟨_, _, hsok⟩ := hsr.srcF
  have hsl := hsr.len
  have hml := hst.le
  have hmc := hst.cap
  unfold maxLen at hmc
  repeat' (first
    | ((apply al_none (t := 17); refine JL_o (OpR_callF en11 rfl (wakes_r _)) rfl rfl ?_; rintro _ _ ⟨rfl, hE⟩; have hs := hs.ext hE))
    | ((apply al_call 12; refine JL_o (by exact OpR_callF en12 rfl (own_r _ a n c es (h.st hs))) rfl rfl ?_; rintro _ _ ⟨rs0, a1, c1, rfl, hf⟩; rw [← hE0] at hf ⊢; have hs := hs.fresh hf; (try simp only [List.cons_append, List.nil_append] at hs)))
    | ((apply al_call 13; refine JL_o (by exact OpR_callF en13 rfl (right7_r _ a1 E0.length c1 E0 (slOwn (rs := rs0) hs (by repeat (first | exact List.Mem.head _ | apply List.Mem.tail)) (by repeat (first | exact List.Mem.head _ | apply List.Mem.tail))) (by omega))) rfl rfl ?_; rintro _ _ ⟨rfl, hE⟩; rw [hrc]; have hs := hs.ext hE; (try simp only [List.cons_append, List.nil_append] at hs)))
    | (apply JL_nil)
    | ((apply JL_pure); (first
      | (apply as_move; exact OpR_move rfl is_rfl)
      | (apply as_assign; exact OpR_assign rfl is_rfl)
      | (apply as_load; exact OpR_load_agg' hs rfl is_rfl)
      | (apply as_unOp; exact OpR_not rfl is_rfl)
      | (apply as_b_len; exact OpR_len rfl is_rfl)); first | (exact rfl; exact rfl) | exact rfl)
    | (apply J_seq)
    | (apply J_region)
    | (apply J_block)
    | (apply J_skip)
    | (apply al_none (t := 2); refine JL_o (by apply as_box; exact OpR_box' hs rfl) rfl rfl ?_; rintro _ _ ⟨b2, rfl, hb2, hs, hE⟩)
    | (apply al_none (t := 5); refine JL_o (by apply as_alloc; exact OpR_alloc' hs) rfl rfl ?_; rintro _ _ ⟨b5, rfl, hb5, hs, hE⟩)
    | (apply al_unit; refine JL_u (by apply as_store; exact OpR_store' hs rfl rfl rfl) rfl ?_; rintro _ _ ⟨hs, hF⟩)
    | (apply aj_cond; refine J_cond_f rfl gb ?_))
  refine J_loopK (α := Nat × List Ent × List REnt × Option Addr × Nat) [(5, _), (6, _), (23, _), (24, _)] (fun g => [(25, .int .i64 g.1)]) (fun g w' => St w NoF w' [Blk b5 (.cells #[.slice g.2.2.2.1 g.2.1.length g.2.2.2.2] 24 (0, 0)), TabRow g.2.2.2.1 g.2.1.length g.2.2.2.2 g.2.2.1, Own g.2.2.1 g.2.1, Blk b2 (.cells #[.slice a n c] 24 (0, 0))] ∧ (checkB g.2.1 = bb ∧ g.2.1.length ≤ 1048576 ∧ ∀ x ∈ g.2.1, x.2.1.length ≤ 4000000000) ∧ g.1 ≤ m ∧ g.1 ≤ 14) (fun g => m - g.1) (0, E0, rs0, a1, c1) ⟨hs.sel [0, 1, 2, 3] (by decide), ⟨hcb, by show E0.length ≤ 1048576; omega, ht0⟩, Nat.zero_le _, Nat.zero_le _⟩ (by repeat' (first | exact trivial | exact rfl | apply And.intro)) ?_
  rintro ⟨k, E, rs, ad, ca⟩ w2 ⟨hs1, ⟨hcE, hEl, hEt⟩, hk, hk14⟩ ih
  dsimp only at hs1 hcE hEl hEt hk hk14 ⊢
  by_cases hlt : k < m
  · obtain ⟨p, o, rfl⟩ := hsr.sl.addr (by omega)
    have hs : St w NoF w2 [_, _, _, _] := hs1
    have hx : sts[k]? = some (sts[k]'(by omega)) := List.getElem?_eq_getElem (by omega)
    obtain ⟨r, hrd⟩ : ∃ r, r = sts[k]'(by omega) := ⟨_, rfl⟩
    rw [← hrd] at hx
    by_cases h14 : k = 14
    · repeat' (first
        | (apply JL_nil)
        | ((apply JL_pure); (first
      | (apply as_load; first | exact OpR_load' hs rfl rfl is_rfl | exact OpR_load_agg' hs rfl is_rfl | exact OpR_load_el (i := k) (hsr.st hs) hx rfl rfl is_rfl)
      | (apply as_move; exact OpR_move rfl is_rfl)
      | (apply as_assign; exact OpR_assign rfl is_rfl)
      | (apply as_binOp; exact OpR_ibin rfl rfl rfl is_rfl)
      | (apply as_indexAddr; exact OpR_indexAddr rfl rfl (by omega) (by omega) is_rfl)); first | (exact rfl; exact rfl) | exact rfl)
        | (apply J_seq)
        | (apply J_region)
        | (apply J_block)
        | (apply aj_exit; refine J_exit rfl ?_)
        | (apply J_skip)
        | (apply al_none (t := 8); refine JL_o (by apply as_alloc; exact OpR_alloc' hs) rfl rfl ?_; rintro _ _ ⟨b8, rfl, hb8, hs, hE⟩)
        | (apply al_unit; refine JL_u (by apply as_store; exact OpR_store' hs rfl rfl rfl) rfl ?_; rintro _ _ ⟨hs, hF⟩)
        | (apply aj_cond; refine J_dec_t rfl ob ?_))
      all_goals refine J_leave Try.func4 rfl (.tmp rfl .nil) ⟨rfl, hs.frm.ext⟩
    · have hsl2 := hsm.1
      have hxs : ss[k]? = some (ss[k]'(by omega)) := List.getElem?_eq_getElem (by omega)
      obtain ⟨x, hxd⟩ : ∃ x, x = ss[k]'(by omega) := ⟨_, rfl⟩
      rw [← hxd] at hxs
      obtain ⟨e1, mx, e3⟩ := hsm.2 k r x hx hxs
      have e1 : r.1 = x.1 := e1
      have e3 : r.2.2 = x.2.2 := e3
      have mx : Sl (tInt .u64) All w r.2.1.1 r.2.1.2.1 r.2.1.2.2 x.2.1 := mx
      have hv : inK .i64 r.2.2 := (hsok r (List.mem_of_getElem? hx)).2.2
      obtain ⟨q, hq⟩ : ∃ q, q = min r.2.1.2.1 14 := ⟨_, rfl⟩
      have mcut := mx.cut q (by omega)
      have hmn := mx.len
      have hmcap := mx.le
      have hmcp := mx.cap
      unfold maxLen at hmcp
      obtain ⟨tt, htt⟩ : ∃ tt, tt = x.2.1.take q := ⟨_, rfl⟩
      rw [← htt] at mcut
      obtain ⟨_, _, hin⟩ := mcut.srcF
      have htl := mcut.len
      obtain ⟨Us, hX⟩ : ∃ Us, Us = allF E := ⟨_, rfl⟩
      have hX4 : Us.length ≤ 4000 := by rw [hX]; exact allF_le E
      obtain ⟨fv, hfv⟩ : ∃ fv, fv = find7M Us tt := ⟨_, rfl⟩
      repeat' (first
        | ((apply aj_condt 42; refine J_cutK (γ := List ZE × Option Addr × Nat) [(5, _), (6, _), (8, _), (9, _), (10, _), (12, _), (23, _), (24, _), (25, _)] (by repeat' (first | exact trivial | exact rfl | apply And.intro)) (fun g => [(11, .slice g.2.1 Us.length g.2.2)]) (fun g w' => St w NoF w' [TabRow g.2.1 Us.length g.2.2 (g.1.map Prod.fst), Row at_ q ct 41 1 (u64s' tt), Blk b9 (.cells #[.slice ak E.length ck] 24 (0, 0)), TabRow ak E.length ck rsk, Own rsk E, Blk b8 (.cells #[.bool r.1, .slice r.2.1.1 r.2.1.2.1 r.2.1.2.2, .int .i64 r.2.2] 46 (0, 0)), Blk b5 (.cells #[.slice ad E.length ca] 24 (0, 0)), TabRow ad E.length ca rs, Own rs E, Blk b2 (.cells #[.slice a n c] 24 (0, 0))] ∧ (∀ p ∈ g.1, p ∈ rs.zip E) ∧ g.1.map Prod.snd = Us) (fun RR kk hcont => hold ?_) (hold ?_)))
        | ((apply al_call 22; refine JL_o (by exact OpR_callF en22 rfl (clone_r _ ad E.length ca E (slOwn (rs := rs) hs (by repeat (first | exact List.Mem.head _ | apply List.Mem.tail)) (by repeat (first | exact List.Mem.head _ | apply List.Mem.tail))) hEl hEt)) rfl rfl ?_; rintro _ _ ⟨rsk, ak, ck, rfl, hf⟩; have hs := hs.fresh hf; (try simp only [List.cons_append, List.nil_append] at hs)))
        | ((apply al_call 23; refine JL_o (by exact OpR_callF en23 rfl (cloneI_r _ r.2.1.1 q r.2.1.2.2 tt (mcut.st hs) (by omega))) rfl rfl ?_; rintro _ _ ⟨at_, ct, rfl, hf⟩; have hs := hs.fresh hf; (try simp only [List.cons_append, List.nil_append] at hs)))
        | (apply JL_nil)
        | ((apply JL_pure); (first
      | (apply as_slice; exact OpR_slice (kl := .i64) (kh := .i64) (km := .i64) (a' := r.2.1.1) (m := r.2.1.2.2) (h := min (r.2.1.2.1 : Int) 14) rfl (.inl ⟨rfl, rfl⟩) (.inr ⟨_, rfl, rfl⟩) (.inl ⟨rfl, rfl⟩) (by omega) (by omega) (by omega) (by omega) (by split; rfl; exact addr0 _) (by rw [show (min (r.2.1.2.1 : Int) 14 - 0).toNat = q by omega, Int.sub_zero, Int.toNat_natCast]; exact is_rfl))
      | (apply as_load; first | exact OpR_load' hs rfl rfl is_rfl | exact OpR_load_agg' hs rfl is_rfl | exact OpR_load_el (i := k) (hsr.st hs) hx rfl rfl is_rfl)
      | (apply as_move; exact OpR_move rfl is_rfl)
      | (apply as_assign; exact OpR_assign rfl is_rfl)
      | (apply as_fieldAddr; exact OpR_fieldAddr0 rfl rfl is_rfl)
      | (apply as_binOp; exact OpR_ibin rfl rfl rfl is_rfl)
      | (apply as_b_len; exact OpR_len rfl is_rfl)
      | (apply as_b_min; exact OpR_min rfl rfl is_rfl)
      | (apply as_indexAddr; exact OpR_indexAddr rfl rfl (by omega) (by omega) is_rfl)); first | (exact rfl; exact rfl) | exact rfl)
        | (apply J_seq)
        | (apply J_region)
        | (apply J_block)
        | (apply J_skip)
        | (apply al_none (t := 8); refine JL_o (by apply as_alloc; exact OpR_alloc' hs) rfl rfl ?_; rintro _ _ ⟨b8, rfl, hb8, hs, hE⟩)
        | (apply al_none (t := 9); refine JL_o (by apply as_alloc; exact OpR_alloc' hs) rfl rfl ?_; rintro _ _ ⟨b9, rfl, hb9, hs, hE⟩)
        | (apply al_unit; refine JL_u (by apply as_store; exact OpR_store' hs rfl rfl rfl) rfl ?_; rintro _ _ ⟨hs, hF⟩)
        | (apply aj_cond; first | refine J_dec_t rfl ob ?_ | refine J_dec_f rfl ob ?_))
      · refine unhold ?_
        cases bb with
        | true =>
          have hXt : Us = allM E := by rw [hX]; unfold allF; rw [if_pos hcE]
          repeat' (first
            | ((apply al_call 14; refine JL_o (by exact OpR_callF en14 rfl (all7_r _ ad E.length ca rs E (rowSl (hs.row ad E.length ca) (St.ownV (rs := rs) (es := E) hs (by repeat (first | exact List.Mem.head _ | apply List.Mem.tail))).ok) ((St.ownV (rs := rs) (es := E) hs (by repeat (first | exact List.Mem.head _ | apply List.Mem.tail))).mean.weak (fun _ _ => trivial)) hEl)) rfl rfl ?_; rintro _ _ ⟨zs, a7, c7, hzm, hz, rfl, hf⟩; rw [← hXt] at hzm hf ⊢; have hs := hs.fresh hf; (try simp only [List.cons_append, List.nil_append] at hs)))
            | (apply JL_nil)
            | ((apply JL_pure); (first
      | (apply as_assign; exact OpR_assign rfl is_rfl)
      | (apply as_load; exact OpR_load_agg' hs rfl is_rfl)); first | (exact rfl; exact rfl) | exact rfl)
            | (apply J_region)
            | (apply aj_cond; refine J_cond_t rfl gb ?_))
          refine hcont (zs, a7, c7) _ _ ⟨hs, hz, hzm⟩ (by repeat' (first | exact trivial | exact rfl | apply And.intro))
        | false =>
          have hXf : Us = [] := by rw [hX]; unfold allF; rw [if_neg (by rw [hcE]; decide)]
          repeat' (first
            | (apply J_skip)
            | (apply aj_cond; refine J_cond_f rfl gb ?_))
          have hs := hs.nilRow 39 3
          rw [hXf] at hcont
          refine hcont ([], none, 0) _ _ ⟨hs, (fun p hp => (by cases hp)), rfl⟩ (by repeat' (first | exact trivial | exact rfl | apply And.intro))
      · refine unhold ?_
        rintro ⟨zs7, a7, c7⟩ w3 ⟨hs1, hz, hzm⟩
        dsimp only at hs1 hz hzm ⊢
        have hs : St w NoF w3 [_, _, _, _, _, _, _, _, _, _] := hs1
        have htS : ∀ {W : World} {LL : List HP}, St w NoF W LL → Row at_ q ct 41 1 (u64s' tt) ∈ LL → Sl (tInt .u64) All W at_ q ct tt := fun hs h3 => slT hs h3 hin
        have hzz : ∀ p ∈ (zs7.map Prod.fst).zip Us, p ∈ rs.zip E := fun p hp => by rw [← hzm, zip_fst_snd] at hp; exact hz p hp
        have hrS : ∀ {W : World} {LL : List HP}, St w NoF W LL → TabRow a7 Us.length c7 (zs7.map Prod.fst) ∈ LL → Own rs E ∈ LL → Sl dREnt All W a7 Us.length c7 (zs7.map Prod.fst) := fun hs h1 h2 => tabR hs h1 (zip_ok hz (St.ownV hs h2).ok)
        have hmS : ∀ {W : World} {LL : List HP}, St w NoF W LL → Own rs E ∈ LL → MeanV mEnt All W (zs7.map Prod.fst) Us := fun hs h2 => by have := (zipRel (St.ownV hs h2).mean hz).weak (R' := All) (fun _ _ => trivial); rw [hzm] at this; exact this
        repeat' (first
          | ((apply aj_block 2; refine J_cutK (γ := Int × List ZE × Option Addr × Nat) [(5, _), (6, _), (8, _), (9, _), (10, _), (23, _), (24, _), (25, _)] (by repeat' (first | exact trivial | exact rfl | apply And.intro)) (fun g => [(12, .slice g.2.2.1 g.2.1.length g.2.2.2), (14, .int .i64 g.1)]) (fun g w' => St w NoF w' [TabRow g.2.2.1 g.2.1.length g.2.2.2 (g.2.1.map Prod.fst), Row at_ q ct 41 1 (u64s' tt), Blk b9 (.cells #[.slice ak E.length ck] 24 (0, 0)), TabRow ak E.length ck rsk, Own rsk E, Blk b8 (.cells #[.bool r.1, .slice r.2.1.1 r.2.1.2.1 r.2.1.2.2, .int .i64 r.2.2] 46 (0, 0)), Blk b5 (.cells #[.slice ad E.length ca] 24 (0, 0)), TabRow ad E.length ca rs, Own rs E, Blk b2 (.cells #[.slice a n c] 24 (0, 0))] ∧ g.1 = noM E r.1 tt r.2.2 ∧ (∀ p ∈ g.2.1, p ∈ rs.zip E ∨ p = ((1, (at_, q, ct), r.2.2), (1, tt, r.2.2))) ∧ (g.1 = 0 → g.2.1.map Prod.snd = wantM E r.1 tt r.2.2)) (fun RR kk hcont => hold ?_) (hold ?_)))
          | ((apply al_call 20; refine JL_o (by exact OpR_callF en20 rfl (find7_r _ a7 Us.length c7 Us at_ q ct tt (sl7 (rs := rs) (es := E) hs (by repeat (first | exact List.Mem.head _ | apply List.Mem.tail)) (by repeat (first | exact List.Mem.head _ | apply List.Mem.tail)) hz hzm) (by omega) (htS hs (by repeat (first | exact List.Mem.head _ | apply List.Mem.tail))))) rfl rfl ?_; rintro _ _ ⟨rfl, hE⟩; rw [← hfv]; have hs := hs.ext hE; (try simp only [List.cons_append, List.nil_append] at hs)))
          | (apply JL_nil)
          | ((apply JL_pure); (first
      | (apply as_move; exact OpR_move rfl is_rfl)
      | (apply as_assign; exact OpR_assign rfl is_rfl)); first | (exact rfl; exact rfl) | exact rfl)
          | (apply J_seq)
          | (apply J_region))
        · refine unhold ?_
          have hnil : ∀ {W : World} {cd : Int}, St w NoF W [TabRow a7 Us.length c7 (zs7.map Prod.fst), Row at_ q ct 41 1 (u64s' tt), Blk b9 (.cells #[.slice ak E.length ck] 24 (0, 0)), TabRow ak E.length ck rsk, Own rsk E, Blk b8 (.cells #[.bool r.1, .slice r.2.1.1 r.2.1.2.1 r.2.1.2.2, .int .i64 r.2.2] 46 (0, 0)), Blk b5 (.cells #[.slice ad E.length ca] 24 (0, 0)), TabRow ad E.length ca rs, Own rs E, Blk b2 (.cells #[.slice a n c] 24 (0, 0))] → cd ≠ 0 → cd = noM E r.1 tt r.2.2 → St w NoF W [TabRow none 0 0 [], Row at_ q ct 41 1 (u64s' tt), Blk b9 (.cells #[.slice ak E.length ck] 24 (0, 0)), TabRow ak E.length ck rsk, Own rsk E, Blk b8 (.cells #[.bool r.1, .slice r.2.1.1 r.2.1.2.1 r.2.1.2.2, .int .i64 r.2.2] 46 (0, 0)), Blk b5 (.cells #[.slice ad E.length ca] 24 (0, 0)), TabRow ad E.length ca rs, Own rs E, Blk b2 (.cells #[.slice a n c] 24 (0, 0))] ∧ cd = noM E r.1 tt r.2.2 ∧ (∀ p ∈ ([] : List ZE), p ∈ rs.zip E ∨ p = ((1, (at_, q, ct), r.2.2), (1, tt, r.2.2))) ∧ (cd = 0 → ([] : List ZE).map Prod.snd = wantM E r.1 tt r.2.2) := fun hs h0 h1 => by
            have hs2 := (hs.sel [1, 2, 3, 4, 5, 6, 7, 8, 9] (by decide)).nilRow 39 3
            exact ⟨hs2, h1, fun p hp => (by cases hp), fun h => absurd h h0⟩
          have hno : noM E r.1 tt r.2.2 = if bb then (if r.1 then (if fv < 0 then 4 else 0) else if typeB tt then (if r.2.2 < 0 then 2 else if 0 ≤ fv then 5 else if Us.length = 4000 then 6 else 0) else 130) else 170 := by
            unfold noM
            rw [hcE]
            cases bb with
            | true => rw [if_pos rfl, if_pos rfl, hfv, hX, allF_true hcE]
            | false => rfl
          have hwt : wantM E r.1 tt r.2.2 = if r.1 then withoutM (allM E) tt else withM (allM E) (1, tt, r.2.2) := rfl
          obtain ⟨dd, hdd⟩ : ∃ dd, r.1 = dd := ⟨_, rfl⟩
          obtain ⟨ty, hty⟩ : ∃ ty, typeB tt = ty := ⟨_, rfl⟩
          rw [hdd] at hs
          rw [hty] at hno
          cases bb with
          | false =>
            simp only [Bool.false_eq_true, if_false] at hno
            repeat' (first
              | (apply JL_nil)
              | ((apply JL_pure); (first
      | (apply as_move; exact OpR_move rfl is_rfl)
      | (apply as_assign; exact OpR_assign rfl is_rfl)
      | (apply as_unOp; exact OpR_not rfl is_rfl)); first | (exact rfl; exact rfl) | exact rfl)
              | (apply J_seq)
              | (apply J_region)
              | (apply J_block)
              | (apply J_inBlock)
              | (apply aj_cond; refine J_cond_t rfl gb ?_))
            rw [← hdd] at hs
            refine hcont (170, [], none, 0) _ _ (hnil hs (by decide) (by rw [hno])) (by repeat' (first | exact trivial | exact rfl | apply And.intro))
          | true =>
            have hXt : Us = allM E := by rw [hX]; unfold allF; rw [if_pos hcE]
            simp only [if_true] at hno
            cases dd with
            | true =>
              rw [hdd] at hno hwt
              simp only [if_true] at hno hwt
              by_cases hf0 : fv < 0
              · rw [if_pos hf0] at hno
                repeat' (first
                  | (apply JL_nil)
                  | ((first | (apply JL_pure) | (apply JL_pure_on; exact rfl; exact gb)); (first
      | (apply as_move; exact OpR_move rfl is_rfl)
      | (apply as_assign; exact OpR_assign rfl is_rfl)
      | (apply as_fieldAddr; exact OpR_fieldAddr0 rfl rfl is_rfl)
      | (apply as_load; exact OpR_load' hs rfl rfl is_rfl)
      | (apply as_binOp; exact OpR_ibin rfl rfl rfl is_rfl)
      | (apply as_unOp; exact OpR_not rfl is_rfl)
      | (apply as_pick; exact OpR_pick_t rfl gb rfl is_rfl)); first | (exact rfl; exact rfl) | exact rfl)
                  | (apply J_seq)
                  | (apply J_region)
                  | (apply J_block)
                  | (apply J_inBlock)
                  | (apply aj_cond; first | refine J_dec_t rfl ob ?_ | refine J_cond_f rfl gb ?_))
                rw [← hdd] at hs
                refine hcont (4, [], none, 0) _ _ (hnil hs (by decide) (by rw [hdd, hno])) (by repeat' (first | exact trivial | exact rfl | apply And.intro))
              · rw [if_neg hf0] at hno
                repeat' (first
                  | ((apply al_call 24; refine JL_o (by exact OpR_callF en24 rfl (withoutR_r _ a7 Us.length c7 (zs7.map Prod.fst) Us at_ q ct tt (hrS hs (by repeat (first | exact List.Mem.head _ | apply List.Mem.tail)) (by repeat (first | exact List.Mem.head _ | apply List.Mem.tail))) (hmS hs (by repeat (first | exact List.Mem.head _ | apply List.Mem.tail))) (by omega) (htS hs (by repeat (first | exact List.Mem.head _ | apply List.Mem.tail))))) rfl rfl ?_; rintro _ _ ⟨zsw, aw, cw, hwm, hwz, rfl, hf⟩; have hs := hs.fresh hf; (try simp only [List.cons_append, List.nil_append] at hs)))
                  | (apply JL_nil)
                  | ((first | (apply JL_pure) | (apply JL_pure_on; exact rfl; exact gb)); (first
      | (apply as_move; exact OpR_move rfl is_rfl)
      | (apply as_assign; exact OpR_assign rfl is_rfl)
      | (apply as_fieldAddr; exact OpR_fieldAddr0 rfl rfl is_rfl)
      | (apply as_load; exact OpR_load' hs rfl rfl is_rfl)
      | (apply as_binOp; exact OpR_ibin rfl rfl rfl is_rfl)
      | (apply as_unOp; exact OpR_not rfl is_rfl)
      | (apply as_pick; exact OpR_pick_t rfl gb rfl is_rfl)); first | (exact rfl; exact rfl) | exact rfl)
                  | (apply J_seq)
                  | (apply J_region)
                  | (apply J_block)
                  | (apply J_inBlock)
                  | (apply aj_cond; first | refine J_dec_f rfl ob ?_ | refine J_cond_t rfl gb ?_ | refine J_cond_f rfl gb ?_))
                rw [← hdd] at hs
                have hwl : (withoutM Us tt).length = zsw.length := by rw [← hwm, List.length_map]
                rw [hwl] at hs
                refine hcont (0, zsw, aw, cw) _ _ ⟨hs.sel [0, 2, 3, 4, 5, 6, 7, 8, 9, 10] (by decide), by rw [hdd, hno], fun p hp => .inl (hzz p (hwz p hp)), fun _ => by rw [hdd, hwt, ← hXt]; exact hwm⟩ (by rw [hwl]; repeat' (first | exact trivial | exact rfl | apply And.intro))
            | false =>
              rw [hdd] at hno hwt
              simp only [Bool.false_eq_true, if_false] at hno hwt
              cases ty with
              | false =>
                simp only [Bool.false_eq_true, if_false] at hno
                repeat' (first
                  | ((apply al_call 25; refine JL_o (by exact OpR_callF en25 rfl (rightR_r _ at_ q ct tt (htS hs (by repeat (first | exact List.Mem.head _ | apply List.Mem.tail))))) rfl rfl ?_; rintro _ _ ⟨rfl, hE⟩; rw [hty]; have hs := hs.ext hE; (try simp only [List.cons_append, List.nil_append] at hs)))
                  | (apply JL_nil)
                  | ((apply JL_pure); (first
      | (apply as_move; exact OpR_move rfl is_rfl)
      | (apply as_assign; exact OpR_assign rfl is_rfl)
      | (apply as_fieldAddr; exact OpR_fieldAddr0 rfl rfl is_rfl)
      | (apply as_load; exact OpR_load' hs rfl rfl is_rfl)
      | (apply as_unOp; exact OpR_not rfl is_rfl)
      | (apply as_pick; exact OpR_pick_f rfl gb rfl is_rfl)); first | (exact rfl; exact rfl) | exact rfl)
                  | (apply J_seq)
                  | (apply J_region)
                  | (apply J_block)
                  | (apply J_inBlock)
                  | (apply al_guard; (refine JL_no rfl gb rfl ?_))
                  | (apply aj_cond; first | refine J_cond_t rfl gb ?_ | refine J_cond_f rfl gb ?_))
                rw [← hdd] at hs
                refine hcont (130, [], none, 0) _ _ (hnil hs (by decide) (by rw [hdd, hno])) (by repeat' (first | exact trivial | exact rfl | apply And.intro))
              | true =>
                simp only [if_true] at hno
                by_cases hv0 : r.2.2 < 0
                · rw [if_pos hv0] at hno
                  repeat' (first
                    | ((apply al_call 25; refine JL_o (by exact OpR_callF en25 rfl (rightR_r _ at_ q ct tt (htS hs (by repeat (first | exact List.Mem.head _ | apply List.Mem.tail))))) rfl rfl ?_; rintro _ _ ⟨rfl, hE⟩; rw [hty]; have hs := hs.ext hE; (try simp only [List.cons_append, List.nil_append] at hs)))
                    | (apply JL_nil)
                    | ((apply JL_pure); (first
      | (apply as_move; exact OpR_move rfl is_rfl)
      | (apply as_assign; exact OpR_assign rfl is_rfl)
      | (apply as_fieldAddr; exact OpR_fieldAddr0 rfl rfl is_rfl)
      | (apply as_load; exact OpR_load' hs rfl rfl is_rfl)
      | (apply as_binOp; exact OpR_ibin rfl rfl rfl is_rfl)
      | (apply as_unOp; exact OpR_not rfl is_rfl)
      | (apply as_pick; exact OpR_pick_f rfl gb rfl is_rfl)); first | (exact rfl; exact rfl) | exact rfl)
                    | (apply J_seq)
                    | (apply J_region)
                    | (apply J_block)
                    | (apply J_inBlock)
                    | (apply al_guard; (refine JL_no rfl gb rfl ?_))
                    | (apply aj_cond; first | refine J_dec_t rfl ob ?_ | refine J_cond_f rfl gb ?_))
                  rw [← hdd] at hs
                  refine hcont (2, [], none, 0) _ _ (hnil hs (by decide) (by rw [hdd, hno])) (by repeat' (first | exact trivial | exact rfl | apply And.intro))
                · rw [if_neg hv0] at hno
                  by_cases hf0 : 0 ≤ fv
                  · rw [if_pos hf0] at hno
                    repeat' (first
                      | ((apply al_call 25; refine JL_o (by exact OpR_callF en25 rfl (rightR_r _ at_ q ct tt (htS hs (by repeat (first | exact List.Mem.head _ | apply List.Mem.tail))))) rfl rfl ?_; rintro _ _ ⟨rfl, hE⟩; rw [hty]; have hs := hs.ext hE; (try simp only [List.cons_append, List.nil_append] at hs)))
                      | (apply JL_nil)
                      | ((apply JL_pure); (first
      | (apply as_move; exact OpR_move rfl is_rfl)
      | (apply as_assign; exact OpR_assign rfl is_rfl)
      | (apply as_fieldAddr; exact OpR_fieldAddr0 rfl rfl is_rfl)
      | (apply as_load; exact OpR_load' hs rfl rfl is_rfl)
      | (apply as_binOp; exact OpR_ibin rfl rfl rfl is_rfl)
      | (apply as_unOp; exact OpR_not rfl is_rfl)
      | (apply as_pick; exact OpR_pick_f rfl gb rfl is_rfl)); first | (exact rfl; exact rfl) | exact rfl)
                      | (apply J_seq)
                      | (apply J_region)
                      | (apply J_block)
                      | (apply J_inBlock)
                      | (apply al_guard; (refine JL_no rfl gb rfl ?_))
                      | (apply aj_cond; first | refine J_dec_t rfl ob ?_ | refine J_dec_f rfl ob ?_ | refine J_cond_f rfl gb ?_))
                    rw [← hdd] at hs
                    refine hcont (5, [], none, 0) _ _ (hnil hs (by decide) (by rw [hdd, hno])) (by repeat' (first | exact trivial | exact rfl | apply And.intro))
                  · rw [if_neg hf0] at hno
                    by_cases hu4 : Us.length = 4000
                    · rw [if_pos hu4] at hno
                      repeat' (first
                        | ((apply al_call 25; refine JL_o (by exact OpR_callF en25 rfl (rightR_r _ at_ q ct tt (htS hs (by repeat (first | exact List.Mem.head _ | apply List.Mem.tail))))) rfl rfl ?_; rintro _ _ ⟨rfl, hE⟩; rw [hty]; have hs := hs.ext hE; (try simp only [List.cons_append, List.nil_append] at hs)))
                        | (apply JL_nil)
                        | ((apply JL_pure); (first
      | (apply as_move; exact OpR_move rfl is_rfl)
      | (apply as_assign; exact OpR_assign rfl is_rfl)
      | (apply as_fieldAddr; exact OpR_fieldAddr0 rfl rfl is_rfl)
      | (apply as_load; exact OpR_load' hs rfl rfl is_rfl)
      | (apply as_binOp; exact OpR_ibin rfl rfl rfl is_rfl)
      | (apply as_unOp; exact OpR_not rfl is_rfl)
      | (apply as_pick; exact OpR_pick_f rfl gb rfl is_rfl)
      | (apply as_b_len; exact OpR_len rfl is_rfl)); first | (exact rfl; exact rfl) | exact rfl)
                        | (apply J_seq)
                        | (apply J_region)
                        | (apply J_block)
                        | (apply J_inBlock)
                        | (apply al_guard; (refine JL_no rfl gb rfl ?_))
                        | (apply aj_cond; first | refine J_dec_t rfl ob ?_ | refine J_dec_f rfl ob ?_ | refine J_cond_f rfl gb ?_))
                      rw [← hdd] at hs
                      refine hcont (6, [], none, 0) _ _ (hnil hs (by decide) (by rw [hdd, hno])) (by repeat' (first | exact trivial | exact rfl | apply And.intro))
                    · rw [if_neg hu4] at hno
                      repeat' (first
                        | ((apply al_call 25; refine JL_o (by exact OpR_callF en25 rfl (rightR_r _ at_ q ct tt (htS hs (by repeat (first | exact List.Mem.head _ | apply List.Mem.tail))))) rfl rfl ?_; rintro _ _ ⟨rfl, hE⟩; rw [hty]; have hs := hs.ext hE; (try simp only [List.cons_append, List.nil_append] at hs)))
                        | ((apply al_call 26; refine JL_o (by exact OpR_callF en26 rfl (withR_r _ a7 Us.length c7 (zs7.map Prod.fst) Us (1, (at_, q, ct), r.2.2) (1, tt, r.2.2) (hrS hs (by repeat (first | exact List.Mem.head _ | apply List.Mem.tail)) (by repeat (first | exact List.Mem.head _ | apply List.Mem.tail))) (hmS hs (by repeat (first | exact List.Mem.head _ | apply List.Mem.tail))) ⟨rfl, htS hs (by repeat (first | exact List.Mem.head _ | apply List.Mem.tail)), rfl⟩ (by omega))) rfl rfl ?_; rintro _ _ ⟨zsw, aw, cw, hwm, hwz, rfl, hf⟩; have hs := hs.fresh hf; (try simp only [List.cons_append, List.nil_append] at hs)))
                        | (apply JL_nil)
                        | ((apply JL_pure); (first
      | (apply as_move; exact OpR_move rfl is_rfl)
      | (apply as_assign; exact OpR_assign rfl is_rfl)
      | (apply as_fieldAddr; exact OpR_fieldAddr0 rfl rfl is_rfl)
      | (apply as_load; exact OpR_load' hs rfl rfl is_rfl)
      | (apply as_binOp; exact OpR_ibin rfl rfl rfl is_rfl)
      | (apply as_unOp; exact OpR_not rfl is_rfl)
      | (apply as_pick; exact OpR_pick_f rfl gb rfl is_rfl)
      | (apply as_b_len; exact OpR_len rfl is_rfl)
      | (apply as_build; exact OpR_build rfl (by (simp only [bld, placesOf, splice, Value.cells, List.take_succ_cons, List.take_zero, List.drop_succ_cons, List.drop_zero, List.cons_append, List.nil_append, List.length_cons, List.length_nil, List.getElem?_cons_zero, List.getElem?_cons_succ, Option.map_some, List.append_nil, Nat.reduceAdd, Nat.reduceMul, Nat.zero_add, Nat.reduceLeDiff, and_self, if_true, List.toList_toArray, Nat.le_refl, Nat.zero_mul, Nat.one_mul]; first | done | rfl)) is_rfl)); first | (exact rfl; exact rfl) | exact rfl)
                        | (apply J_seq)
                        | (apply J_region)
                        | (apply J_block)
                        | (apply J_inBlock)
                        | (apply al_guard; (refine JL_no rfl gb rfl ?_))
                        | (apply aj_cond; first | refine J_dec_f rfl ob ?_ | refine J_cond_f rfl gb ?_))
                      rw [← hdd] at hs
                      have hwl : Us.length + 1 = zsw.length := by have := congrArg List.length hwm; rw [List.length_map, (withM_perm Us _).length_eq, List.length_cons] at this; exact this.symm
                      rw [hwl] at hs
                      refine hcont (0, zsw, aw, cw) _ _ ⟨hs.sel [0, 2, 3, 4, 5, 6, 7, 8, 9, 10] (by decide), by rw [hdd, hno], fun p hp => (hwz p hp).imp (hzz p) id, fun _ => by rw [hdd, hwt, ← hXt]; exact hwm⟩ (by rw [hwl]; repeat' (first | exact trivial | exact rfl | apply And.intro))
        · refine unhold ?_
          rintro ⟨cd, zsw, aw, cw⟩ w4 ⟨hs1, hcd, hwz, hwm⟩
          dsimp only at hs1 hcd hwz hwm ⊢
          have hs : St w NoF w4 [_, _, _, _, _, _, _, _, _, _] := hs1
          have hW : ∀ {W : World} {LL : List HP}, St w NoF W LL → TabRow aw zsw.length cw (zsw.map Prod.fst) ∈ LL → Own rs E ∈ LL → Row at_ q ct 41 1 (u64s' tt) ∈ LL → Sl dEnt All W aw zsw.length cw (zsw.map Prod.snd) := fun hs h1 h2 h3 => slWant hs h1 h2 h3 hin hv hwz
          have hEE : decide (E = E) = true := decide_eq_true rfl
          obtain ⟨dd, hdd⟩ : ∃ dd, r.1 = dd := ⟨_, rfl⟩
          rw [hdd] at hs hcd hwm
          by_cases h0 : cd = 0
          · subst h0
            have hbt : bb = true := by rw [← hcE]; exact no_chk hcd.symm
            cases dd with
            | true =>
              have hd0 : dropE E tt = 0 := by rw [no_drop E tt r.2.2, ← hcd]
              repeat' (first
                | ((apply al_call 27; refine JL_o (by exact OpR_callF en27 rfl (drop_ok _ ad E.length ca E at_ q ct tt (slOwn (rs := rs) hs (by repeat (first | exact List.Mem.head _ | apply List.Mem.tail)) (by repeat (first | exact List.Mem.head _ | apply List.Mem.tail))) hEl (htS hs (by repeat (first | exact List.Mem.head _ | apply List.Mem.tail))) hd0)) rfl rfl ?_; rintro _ _ ⟨pp, xx, rs4, a4, c4, ⟨hx4, hx41, hxt4⟩, rfl, hf⟩; obtain ⟨es4, hes4⟩ : ∃ es4, es4 = E.set pp gone := ⟨_, rfl⟩; rw [← hes4] at hf; have hs := hs.fresh hf; obtain ⟨hc4, hw4⟩ := want_drop hcd.symm hx4 hx41 hxt4; rw [← hes4] at hc4 hw4; have hl4 : E.length = es4.length := (by rw [hes4, List.length_set]); have hsay : (checkB es4 && decide (allM es4 = zsw.map Prod.snd)) = true := (by rw [hc4, hw4, hwm rfl]; simp); (try simp only [List.cons_append, List.nil_append] at hs)))
                | ((apply al_callg 29; refine JL_o_on rfl gb (by exact OpR_callF en29 rfl (says_r _ a4 E.length c4 es4 aw zsw.length cw (zsw.map Prod.snd) (slOwn (rs := rs4) hs (by repeat (first | exact List.Mem.head _ | apply List.Mem.tail)) (by repeat (first | exact List.Mem.head _ | apply List.Mem.tail))) hEl (hW hs (by repeat (first | exact List.Mem.head _ | apply List.Mem.tail)) (by repeat (first | exact List.Mem.head _ | apply List.Mem.tail)) (by repeat (first | exact List.Mem.head _ | apply List.Mem.tail))))) rfl rfl ?_; rintro _ _ ⟨rfl, hE⟩; rw [hsay]; have hs := hs.ext hE; (try simp only [List.cons_append, List.nil_append] at hs)))
                | ((apply al_callg 17; refine JL_o_on rfl gb (by exact OpR_callF en17 rfl (same7_r _ ad ak E.length ca E.length ck E E (slOwn (rs := rs) hs (by repeat (first | exact List.Mem.head _ | apply List.Mem.tail)) (by repeat (first | exact List.Mem.head _ | apply List.Mem.tail))) (slOwn (rs := rsk) hs (by repeat (first | exact List.Mem.head _ | apply List.Mem.tail)) (by repeat (first | exact List.Mem.head _ | apply List.Mem.tail))) hEl)) rfl rfl ?_; rintro _ _ ⟨rfl, hE⟩; rw [hEE]; have hs := hs.ext hE; (try simp only [List.cons_append, List.nil_append] at hs)))
                | (apply JL_nil)
                | ((first | (apply JL_pure) | (apply JL_pure_on; exact rfl; exact gb)); (first
      | (apply as_move; exact OpR_move rfl is_rfl)
      | (apply as_assign; exact OpR_assign rfl is_rfl)
      | (apply as_fieldAddr; exact OpR_fieldAddr0 rfl rfl is_rfl)
      | (apply as_load; first | exact OpR_load' hs rfl rfl is_rfl | exact OpR_load_agg' hs rfl is_rfl)
      | (apply as_add; exact OpR_addn rfl rfl (by omega) (by first | (simp only [Int.reduceAdd]; exact rfl) | exact rfl) is_rfl)
      | (apply as_binOp; exact OpR_ibin rfl rfl rfl is_rfl)
      | (apply as_unOp; exact OpR_not rfl is_rfl)
      | (apply as_pick; first | exact OpR_pick_t rfl gb rfl is_rfl | exact OpR_pick_f rfl gb rfl is_rfl)
      | (apply as_extract; exact OpR_extract rfl rfl is_rfl)); first | (exact rfl; exact rfl) | exact rfl)
                | (apply J_seq)
                | (apply J_region)
                | (apply J_inBlock)
                | (apply J_skip)
                | (apply al_none (t := 15); refine JL_o (by apply as_alloc; exact OpR_alloc' hs) rfl rfl ?_; rintro _ _ ⟨b15, rfl, hb15, hs, hE⟩)
                | (apply al_unit; refine JL_u (by apply as_store; exact OpR_store' hs rfl rfl rfl) rfl ?_; rintro _ _ ⟨hs, hF⟩)
                | (apply al_guard; (refine JL_no rfl gb rfl ?_))
                | (apply aj_cond; first | refine J_dec_t rfl ob ?_ | refine J_cond_t rfl gb ?_ | refine J_cond_f rfl gb ?_))
              refine ih (k + 1, es4, rs4, a4, c4) _ _ ⟨by rw [hl4] at hs; exact hs.sel [9, 0, 1, 12] (by decide), ⟨by rw [hbt]; exact hc4, by show es4.length ≤ 1048576; omega, fun x hx => Nat.le_trans (check_len hc4 hx) (by decide)⟩, hlt, by show k + 1 ≤ 14; omega⟩ (by show m - (k + 1) < m - k; omega) (by repeat' (first | exact trivial | exact rfl | apply And.intro))
            | false =>
              have hd0 : putE E tt r.2.2 = 0 := by rw [no_put E tt r.2.2, ← hcd]
              repeat' (first
                | ((apply al_call 28; refine JL_o (by exact OpR_callF en28 rfl (put_ok _ ad E.length ca E at_ q ct tt r.2.2 (slOwn (rs := rs) hs (by repeat (first | exact List.Mem.head _ | apply List.Mem.tail)) (by repeat (first | exact List.Mem.head _ | apply List.Mem.tail))) hEl (htS hs (by repeat (first | exact List.Mem.head _ | apply List.Mem.tail))) hv hd0)) rfl rfl ?_; rintro _ _ ⟨es4, rs4, a4, ⟨hc4, hp4, hb4⟩, rfl, hf⟩; have hs := hs.fresh hf; have hw4 := want_put hcd.symm hc4 hp4; have hsay : (checkB es4 && decide (allM es4 = zsw.map Prod.snd)) = true := (by rw [hc4, hw4, hwm rfl]; simp); (try simp only [List.cons_append, List.nil_append] at hs)))
                | ((apply al_callg 29; refine JL_o_on rfl gb (by exact OpR_callF en29 rfl (says_r _ a4 es4.length es4.length es4 aw zsw.length cw (zsw.map Prod.snd) (slOwn (rs := rs4) hs (by repeat (first | exact List.Mem.head _ | apply List.Mem.tail)) (by repeat (first | exact List.Mem.head _ | apply List.Mem.tail))) hb4 (hW hs (by repeat (first | exact List.Mem.head _ | apply List.Mem.tail)) (by repeat (first | exact List.Mem.head _ | apply List.Mem.tail)) (by repeat (first | exact List.Mem.head _ | apply List.Mem.tail))))) rfl rfl ?_; rintro _ _ ⟨rfl, hE⟩; rw [hsay]; have hs := hs.ext hE; (try simp only [List.cons_append, List.nil_append] at hs)))
                | ((apply al_callg 17; refine JL_o_on rfl gb (by exact OpR_callF en17 rfl (same7_r _ ad ak E.length ca E.length ck E E (slOwn (rs := rs) hs (by repeat (first | exact List.Mem.head _ | apply List.Mem.tail)) (by repeat (first | exact List.Mem.head _ | apply List.Mem.tail))) (slOwn (rs := rsk) hs (by repeat (first | exact List.Mem.head _ | apply List.Mem.tail)) (by repeat (first | exact List.Mem.head _ | apply List.Mem.tail))) hEl)) rfl rfl ?_; rintro _ _ ⟨rfl, hE⟩; rw [hEE]; have hs := hs.ext hE; (try simp only [List.cons_append, List.nil_append] at hs)))
                | (apply JL_nil)
                | ((first | (apply JL_pure) | (apply JL_pure_on; exact rfl; exact gb)); (first
      | (apply as_move; exact OpR_move rfl is_rfl)
      | (apply as_assign; exact OpR_assign rfl is_rfl)
      | (apply as_fieldAddr; exact OpR_fieldAddr0 rfl rfl is_rfl)
      | (apply as_load; first | exact OpR_load' hs rfl rfl is_rfl | exact OpR_load_agg' hs rfl is_rfl)
      | (apply as_add; exact OpR_addn rfl rfl (by omega) (by first | (simp only [Int.reduceAdd]; exact rfl) | exact rfl) is_rfl)
      | (apply as_binOp; exact OpR_ibin rfl rfl rfl is_rfl)
      | (apply as_unOp; exact OpR_not rfl is_rfl)
      | (apply as_pick; first | exact OpR_pick_t rfl gb rfl is_rfl | exact OpR_pick_f rfl gb rfl is_rfl)
      | (apply as_extract; exact OpR_extract rfl rfl is_rfl)); first | (exact rfl; exact rfl) | exact rfl)
                | (apply J_seq)
                | (apply J_region)
                | (apply J_inBlock)
                | (apply J_skip)
                | (apply al_none (t := 15); refine JL_o (by apply as_alloc; exact OpR_alloc' hs) rfl rfl ?_; rintro _ _ ⟨b15, rfl, hb15, hs, hE⟩)
                | (apply al_unit; refine JL_u (by apply as_store; exact OpR_store' hs rfl rfl rfl) rfl ?_; rintro _ _ ⟨hs, hF⟩)
                | (apply al_guard; (refine JL_no rfl gb rfl ?_))
                | (apply aj_cond; first | refine J_dec_t rfl ob ?_ | refine J_cond_f rfl gb ?_))
              refine ih (k + 1, es4, rs4, a4, es4.length) _ _ ⟨hs.sel [9, 0, 1, 12] (by decide), ⟨by rw [hbt]; exact hc4, hb4, fun x hx => Nat.le_trans (check_len hc4 hx) (by decide)⟩, hlt, by show k + 1 ≤ 14; omega⟩ (by show m - (k + 1) < m - k; omega) (by repeat' (first | exact trivial | exact rfl | apply And.intro))
          · cases dd with
            | true =>
              have hdc : dropE E tt = cd := by rw [no_drop E tt r.2.2, ← hcd]
              repeat' (first
                | ((apply al_call 27; refine JL_o (by exact OpR_callF en27 rfl (drop_bad _ ad E.length ca E at_ q ct tt (slOwn (rs := rs) hs (by repeat (first | exact List.Mem.head _ | apply List.Mem.tail)) (by repeat (first | exact List.Mem.head _ | apply List.Mem.tail))) hEl (htS hs (by repeat (first | exact List.Mem.head _ | apply List.Mem.tail))) (by rw [hdc]; exact h0))) rfl rfl ?_; rintro _ _ ⟨rfl, hE⟩; rw [hdc]; have hs := hs.ext hE; (try simp only [List.cons_append, List.nil_append] at hs)))
                | ((apply al_callg 17; refine JL_o_on rfl gb (by exact OpR_callF en17 rfl (same7_r _ ad ak E.length ca E.length ck E E (slOwn (rs := rs) hs (by repeat (first | exact List.Mem.head _ | apply List.Mem.tail)) (by repeat (first | exact List.Mem.head _ | apply List.Mem.tail))) (slOwn (rs := rsk) hs (by repeat (first | exact List.Mem.head _ | apply List.Mem.tail)) (by repeat (first | exact List.Mem.head _ | apply List.Mem.tail))) hEl)) rfl rfl ?_; rintro _ _ ⟨rfl, hE⟩; rw [hEE]; have hs := hs.ext hE; (try simp only [List.cons_append, List.nil_append] at hs)))
                | (apply JL_nil)
                | ((first | (apply JL_pure) | (apply JL_pure_on; exact rfl; exact gb)); (first
      | (apply as_move; exact OpR_move rfl is_rfl)
      | (apply as_assign; exact OpR_assign rfl is_rfl)
      | (apply as_fieldAddr; exact OpR_fieldAddr0 rfl rfl is_rfl)
      | (apply as_load; first | exact OpR_load' hs rfl rfl is_rfl | exact OpR_load_agg' hs rfl is_rfl)
      | (apply as_add; exact OpR_addn rfl rfl (by omega) (by first | (simp only [Int.reduceAdd]; exact rfl) | exact rfl) is_rfl)
      | (apply as_binOp; exact OpR_ibin rfl rfl rfl is_rfl)
      | (apply as_unOp; exact OpR_not rfl is_rfl)
      | (apply as_pick; first | exact OpR_pick_t rfl gb rfl is_rfl | exact OpR_pick_f rfl gb rfl is_rfl)
      | (apply as_b_len; exact OpR_len rfl is_rfl)
      | (apply as_extract; exact OpR_extract rfl rfl is_rfl)); first | (exact rfl; exact rfl) | exact rfl)
                | (apply J_seq)
                | (apply J_region)
                | (apply J_inBlock)
                | (apply J_skip)
                | (apply al_none (t := 15); refine JL_o (by apply as_alloc; exact OpR_alloc' hs) rfl rfl ?_; rintro _ _ ⟨b15, rfl, hb15, hs, hE⟩)
                | (apply al_unit; refine JL_u (by apply as_store; exact OpR_store' hs rfl rfl rfl) rfl ?_; rintro _ _ ⟨hs, hF⟩)
                | (apply al_guard; (refine JL_no rfl gb rfl ?_))
                | (apply aj_cond; first | refine J_dec_f rfl ob ?_ | refine J_cond_t rfl gb ?_ | refine J_cond_f rfl gb ?_))
              refine ih (k + 1, E, rs, ad, ca) _ _ ⟨hs.sel [7, 8, 9, 10] (by decide), ⟨hcE, hEl, hEt⟩, hlt, by show k + 1 ≤ 14; omega⟩ (by show m - (k + 1) < m - k; omega) (by repeat' (first | exact trivial | exact rfl | apply And.intro))
            | false =>
              have hdc : putE E tt r.2.2 = cd := by rw [no_put E tt r.2.2, ← hcd]
              repeat' (first
                | ((apply al_call 28; refine JL_o (by exact OpR_callF en28 rfl (put_bad _ ad E.length ca E at_ q ct tt r.2.2 (slOwn (rs := rs) hs (by repeat (first | exact List.Mem.head _ | apply List.Mem.tail)) (by repeat (first | exact List.Mem.head _ | apply List.Mem.tail))) hEl (htS hs (by repeat (first | exact List.Mem.head _ | apply List.Mem.tail))) hv (by rw [hdc]; exact h0))) rfl rfl ?_; rintro _ _ ⟨rfl, hE⟩; rw [hdc]; have hs := hs.ext hE; (try simp only [List.cons_append, List.nil_append] at hs)))
                | ((apply al_callg 17; refine JL_o_on rfl gb (by exact OpR_callF en17 rfl (same7_r _ ad ak E.length ca E.length ck E E (slOwn (rs := rs) hs (by repeat (first | exact List.Mem.head _ | apply List.Mem.tail)) (by repeat (first | exact List.Mem.head _ | apply List.Mem.tail))) (slOwn (rs := rsk) hs (by repeat (first | exact List.Mem.head _ | apply List.Mem.tail)) (by repeat (first | exact List.Mem.head _ | apply List.Mem.tail))) hEl)) rfl rfl ?_; rintro _ _ ⟨rfl, hE⟩; rw [hEE]; have hs := hs.ext hE; (try simp only [List.cons_append, List.nil_append] at hs)))
                | (apply JL_nil)
                | ((first | (apply JL_pure) | (apply JL_pure_on; exact rfl; exact gb)); (first
      | (apply as_move; exact OpR_move rfl is_rfl)
      | (apply as_assign; exact OpR_assign rfl is_rfl)
      | (apply as_fieldAddr; exact OpR_fieldAddr0 rfl rfl is_rfl)
      | (apply as_load; first | exact OpR_load' hs rfl rfl is_rfl | exact OpR_load_agg' hs rfl is_rfl)
      | (apply as_add; exact OpR_addn rfl rfl (by omega) (by first | (simp only [Int.reduceAdd]; exact rfl) | exact rfl) is_rfl)
      | (apply as_binOp; exact OpR_ibin rfl rfl rfl is_rfl)
      | (apply as_unOp; exact OpR_not rfl is_rfl)
      | (apply as_pick; first | exact OpR_pick_t rfl gb rfl is_rfl | exact OpR_pick_f rfl gb rfl is_rfl)
      | (apply as_b_len; exact OpR_len rfl is_rfl)
      | (apply as_extract; exact OpR_extract rfl rfl is_rfl)); first | (exact rfl; exact rfl) | exact rfl)
                | (apply J_seq)
                | (apply J_region)
                | (apply J_inBlock)
                | (apply J_skip)
                | (apply al_none (t := 15); refine JL_o (by apply as_alloc; exact OpR_alloc' hs) rfl rfl ?_; rintro _ _ ⟨b15, rfl, hb15, hs, hE⟩)
                | (apply al_unit; refine JL_u (by apply as_store; exact OpR_store' hs rfl rfl rfl) rfl ?_; rintro _ _ ⟨hs, hF⟩)
                | (apply al_guard; (refine JL_no rfl gb rfl ?_))
                | (apply aj_cond; first | refine J_dec_f rfl ob ?_ | refine J_cond_f rfl gb ?_))
              refine ih (k + 1, E, rs, ad, ca) _ _ ⟨hs.sel [7, 8, 9, 10] (by decide), ⟨hcE, hEl, hEt⟩, hlt, by show k + 1 ≤ 14; omega⟩ (by show m - (k + 1) < m - k; omega) (by repeat' (first | exact trivial | exact rfl | apply And.intro))
  · have hs : St w NoF w2 [_, _, _, _] := hs1
    repeat' (first
      | (apply JL_nil)
      | ((apply JL_pure); (first
      | (apply as_assign; exact OpR_assign rfl is_rfl)
      | (apply as_binOp; exact OpR_ibin rfl rfl rfl is_rfl)); first | (exact rfl; exact rfl) | exact rfl)
      | (apply J_seq)
      | (apply J_region)
      | (apply aj_exit; refine J_exit rfl ?_)
      | (apply aj_cond; refine J_dec_f rfl ob ?_))
    refine J_leave Try.func4 rfl (.tmp rfl .nil) ⟨rfl, hs.frm.ext⟩
end Go.Eng
