/- The texts L45, joined. -/
import Derived.Test.YtcoldgkhlkjjmaaY7
/- LookupOrder. -/
namespace Go.Eng
open Go.Proofs
set_option linter.unusedSimpArgs false
set_option linter.unusedVariables false
def cutS (r : RS) : RS := (r.1, min r.2.1 14, r.2.2)
def CutTo (ids rs : List RS) (k : Nat) : Prop := ∀ j r, rs[j]? = some r → ∃ r0, ids[j]? = some r0 ∧ r = if j < k then cutS r0 else r0
theorem CutTo.new (ids : List RS) (q : Nat) : CutTo ids (ids.take q) 0 := fun j r hr => by
  rw [List.getElem?_take] at hr
  by_cases h : j < q
  · rw [if_pos h] at hr; exact ⟨r, hr, by simp⟩
  · rw [if_neg h] at hr; cases hr
theorem CutTo.next {ids rs : List RS} {k : Nat} {r : RS} (h : CutTo ids rs k) (hr : rs[k]? = some r) : CutTo ids (rs.set k (cutS r)) (k + 1) := fun j q hq => by
  have hk := (List.getElem?_eq_some_iff.1 hr).1
  rw [List.getElem?_set] at hq
  by_cases e : k = j
  · subst e
    rw [if_pos rfl, if_pos hk] at hq
    obtain ⟨r0, h1, h2⟩ := h k r hr
    rw [if_neg (Nat.lt_irrefl _)] at h2
    subst h2
    exact ⟨r, h1, by rw [if_pos (by omega)]; exact (Option.some.inj hq).symm⟩
  · rw [if_neg e] at hq
    obtain ⟨r0, h1, h2⟩ := h j q hq
    refine ⟨r0, h1, ?_⟩
    rw [h2]
    by_cases hj : j < k
    · rw [if_pos hj, if_pos (by omega)]
    · rw [if_neg hj, if_neg (by omega)]
theorem zsOf {P : RS → List Int → Prop} : ∀ (rs : List RS), (∀ r ∈ rs, ∃ t, P r t) → ∃ zs : List (RS × List Int), zs.map Prod.fst = rs ∧ ∀ z ∈ zs, P z.1 z.2
  | [], _ => ⟨[], rfl, fun z hz => by cases hz⟩
  | r :: rs, h => by
    obtain ⟨t, ht⟩ := h r List.mem_cons_self
    obtain ⟨zs, h1, h2⟩ := zsOf rs (fun q hq => h q (List.mem_cons_of_mem _ hq))
    refine ⟨(r, t) :: zs, by rw [List.map_cons, h1], fun z hz => ?_⟩
    rcases List.mem_cons.1 hz with e | e
    · subst e; exact ht
    · exact h2 z e
theorem encS_set (rs : List RS) (k : Nat) (r : RS) : (encL cRS rs).set k (.slice r.1 r.2.1 r.2.2) = encL cRS (rs.set k r) := by
  rw [encL_ids, encL_ids, List.map_set]
theorem encS_get {rs : List RS} {k : Nat} {r : RS} (h : rs[k]? = some r) : (encL cRS rs)[k]? = some (.slice r.1 r.2.1 r.2.2) := by
  rw [encL_ids, List.getElem?_map, h]; rfl
theorem order1_ok (w : World) (a : Option Addr) (n c : Nat) (es : List Ent) (a2 : Option Addr) (n2 c2 : Nat) (t : List Int) (h : Sl dEnt All w a n c es) (hn : n ≤ 1048576) (h2 : Sl (tInt .u64) All w a2 n2 c2 t) (hv : inK .i64 (n2 : Int)) (hp : putE es t n2 = 0) :
    Ret Try.prog 31 #[.agg #[.slice a n c], .slice a2 n2 c2] w fun u w' => ∃ (es' : List Ent) (rs' : List REnt) (a' : Option Addr), (checkB es' = true ∧ (es'.filter stands).Perm (allM es ++ [(1, t, (n2 : Int))]) ∧ es'.length ≤ 1048576) ∧ u = .agg #[.slice a' es'.length es'.length] ∧ Fresh w w' [TabRow a' es'.length es'.length rs', Own rs' es'] :=
  (order1_r w a n c es a2 n2 c2 t h hn h2 hv).mono fun u w' hh => by
    rcases hh with ⟨h1, _⟩ | ⟨_, h2⟩
    · exact absurd hp h1
    · exact h2
theorem order1_no (w : World) (a : Option Addr) (n c : Nat) (es : List Ent) (a2 : Option Addr) (n2 c2 : Nat) (t : List Int) (h : Sl dEnt All w a n c es) (hn : n ≤ 1048576) (h2 : Sl (tInt .u64) All w a2 n2 c2 t) (hv : inK .i64 (n2 : Int)) (hp : putE es t n2 ≠ 0) :
    Ret Try.prog 31 #[.agg #[.slice a n c], .slice a2 n2 c2] w fun u w' => u = .agg #[.slice a n c] ∧ Ext w w' :=
  (order1_r w a n c es a2 n2 c2 t h hn h2 hv).mono fun u w' hh => by
    rcases hh with ⟨_, h1, h2⟩ | ⟨h1, _⟩
    · exact ⟨h1, h2⟩
    · exact absurd h1 hp
instance rawIds' : RawTy (tSl (tInt .u64)) tS (relSl (tInt .u64)) := inferInstance
attribute [local irreducible] Hold J JL JD JX JXat OpR OpG Ret RetV Is Blk Row MapC
set_option maxRecDepth 100000
set_option maxHeartbeats 1000000
theorem lookupOrder_w (w : World) (a : Option Addr) (n c : Nat) (tss : List (List Int)) (h : Sl (tSl (tInt .u64)) All w a n c tss) :
    Ret Try.prog 5 #[.slice a n c] w fun v w' => v = .bool true ∧ Ext w w' := by
  refine Ret_of (l := [_]) Try.func5 rfl Try.ntmps5 (by simp) ?_
  have hs := St.init w
  obtain ⟨ids, hir, him⟩ := Sl.raw (D := rawIds') h
  have hil := hir.len
  obtain ⟨q, hq⟩ : ∃ q, q = min n 30 := ⟨_, rfl⟩
  have mcut := hir.cut q (by omega)
  have hmcap := hir.le
  have hcmax := hir.cap
  unfold maxLen at hcmax
  repeat' (first
    | ((apply al_none (t := 16); refine JL_o (OpR_callF en11 rfl (wakes_r _)) rfl rfl ?_; rintro _ _ ⟨rfl, hE⟩; have hs := hs.ext hE))
    | ((apply al_call 30; refine JL_o (by exact OpR_callF en30 rfl (cloneS_r _ a q c (ids.take q) (mcut.st hs) (by omega))) rfl rfl ?_; rintro _ _ ⟨a1, c1, rfl, hf⟩; have hs := hs.fresh hf; (try simp only [List.cons_append, List.nil_append] at hs)))
    | (apply JL_nil)
    | ((apply JL_pure); (first
      | (apply as_slice; exact OpR_slice (kl := .i64) (kh := .i64) (km := .i64) (a' := a) (m := c) (h := min (n : Int) 30) rfl (.inl ⟨rfl, rfl⟩) (.inr ⟨_, rfl, rfl⟩) (.inl ⟨rfl, rfl⟩) (by omega) (by omega) (by omega) (by omega) (by split; rfl; exact addr0 _) (by rw [show (min (n : Int) 30 - 0).toNat = q by omega, Int.sub_zero, Int.toNat_natCast]; exact is_rfl))
      | (apply as_move; exact OpR_move rfl is_rfl)
      | (apply as_assign; exact OpR_assign rfl is_rfl)
      | (apply as_unOp; exact OpR_not rfl is_rfl)
      | (apply as_b_len; exact OpR_len rfl is_rfl)
      | (apply as_b_min; exact OpR_min rfl rfl is_rfl)); first | (exact rfl; exact rfl) | exact rfl)
    | (apply J_seq)
    | (apply J_region)
    | (apply J_block)
    | (apply J_skip)
    | (apply aj_cond; refine J_cond_f rfl gb ?_))
  refine J_loopK (α := List RS × Nat) [(3, _), (25, _)] (fun g => [(26, .int .i64 g.2)]) (fun g w' => St w NoF w' [IdsRow a1 q c1 g.1] ∧ CutTo ids g.1 g.2 ∧ g.1.length = q ∧ g.2 ≤ q) (fun g => q - g.2) (ids.take q, 0) ⟨hs, CutTo.new _ _, by rw [List.length_take]; omega, Nat.zero_le _⟩ (by repeat' (first | exact trivial | exact rfl | apply And.intro)) ?_
  rintro ⟨rs, k⟩ w2 ⟨hs1, hct, hrl, hk⟩ ih
  dsimp only at hs1 hct hrl hk ⊢
  by_cases hlt : k < q
  · have hs : St w NoF w2 [_] := hs1
    obtain ⟨p, o, rfl⟩ := (hs.row a1 q c1).some (by omega)
    have hs : St w NoF w2 [_] := hs1
    have hx : rs[k]? = some (rs[k]'(by omega)) := List.getElem?_eq_getElem (by omega)
    obtain ⟨r, hrd⟩ : ∃ r, r = rs[k]'(by omega) := ⟨_, rfl⟩
    rw [← hrd] at hx
    obtain ⟨r0, hr0, hrr⟩ := hct k r hx
    rw [if_neg (Nat.lt_irrefl _)] at hrr
    subst hrr
    have htx : tss[k]? = some (tss[k]'(by have := him.1; omega)) := List.getElem?_eq_getElem (by have := him.1; omega)
    have hrel := him.2 k r _ hr0 htx
    have mx : Sl (tInt .u64) All w r.1 r.2.1 r.2.2 _ := hrel
    have hmn := mx.len
    have hml := mx.le
    have hmc := mx.cap
    unfold maxLen at hmc
    have hcx := encS_get hx
    repeat' (first
      | ((apply al_unit; refine JL_u (by apply as_store; exact OpR_storeRow (b := p) (o := o) (i := k) (n := q) (c := c1) hs rfl rfl rfl rfl hlt) rfl ?_; rintro _ _ ⟨hs, hF⟩))
      | (apply JL_nil)
      | ((first | (apply JL_pure) | (apply JX_f; exact rfl; intro W X hs)); (first
      | (apply as_load; exact OpR_loadRow (b := p) (o := o) (i := k) (n := q) (c := c1) hs rfl hcx is_rfl)
      | (apply as_slice; exact OpR_slice (kl := .i64) (kh := .i64) (km := .i64) (a' := r.1) (m := r.2.2) (h := min (r.2.1 : Int) 14) rfl (.inl ⟨rfl, rfl⟩) (.inr ⟨_, rfl, rfl⟩) (.inl ⟨rfl, rfl⟩) (by omega) (by omega) (by omega) (by omega) (by split; rfl; exact addr0 _) (by rw [show (min (r.2.1 : Int) 14 - 0).toNat = min r.2.1 14 by omega, Int.sub_zero, Int.toNat_natCast]; exact is_rfl))
      | (apply as_move; exact OpR_move rfl is_rfl)
      | (apply as_assign; exact OpR_assign rfl is_rfl)
      | (apply as_add; exact OpR_addn rfl rfl (by omega) (by first | (simp only [Int.reduceAdd]; exact rfl) | exact rfl) is_rfl)
      | (apply as_binOp; exact OpR_ibin rfl rfl rfl is_rfl)
      | (apply as_b_len; exact OpR_len rfl is_rfl)
      | (apply as_b_min; exact OpR_min rfl rfl is_rfl)
      | (apply as_indexAddr; exact OpR_indexAddr rfl rfl (by omega) (by omega) is_rfl)); first | (exact rfl; exact rfl) | exact rfl)
      | (apply J_seq)
      | (apply J_region)
      | (apply J_block)
      | (apply J_inBlock)
      | (apply J_skip)
      | (apply aj_cond; refine J_dec_t rfl ob ?_)
      | (apply aj_draw; (refine J_drawX (id := 7) [0, 0, 0, 0, 12, 28, 0, 0, 192, 448, 960, 1984, 4092, 8191, 16383] [(0, 0), (1, 0), (2, 0), (3, 0), (4, 0), (5, 0), (6, 0), (7, 0), (8, 0), (9, 0), (10, 0), (11, 0), (12, 0), (13, 0)] [14] hs mixed (by kernel_rfl) (by kernel_rfl) (by kernel_rfl) (by kernel_rfl) (by kernel_rfl) ?_))
      | (refine JX_done (fun W hs => ?_))
      | (apply JD_tail; case' hos => (simp only [List.map_cons, List.map_nil, List.getElem?_toArray, List.getElem?_cons_succ, List.getElem?_cons_zero]; repeat' (first | exact ms_nil | apply ms_cons))))
    rw [show (encL cRS rs).set k (.slice r.1 (min r.2.1 14) r.2.2) = encL cRS (rs.set k (cutS r)) from encS_set rs k (cutS r)] at hs
    refine ih (rs.set k (cutS r), k + 1) _ _ ⟨hs, hct.next hx, by rw [List.length_set]; exact hrl, hlt⟩ (by show q - (k + 1) < q - k; omega) (by repeat' (first | exact trivial | exact rfl | apply And.intro))
  · have hs : St w NoF w2 [_] := hs1
    have hkq : k = q := by omega
    obtain ⟨zs, hzr, hzt⟩ := zsOf (P := fun r t => Sl (tInt .u64) All w r.1 r.2.1 r.2.2 t ∧ r.2.1 ≤ 14) rs (fun r hr => by
      obtain ⟨j, hj⟩ := List.mem_iff_getElem?.1 hr
      have hjl := (List.getElem?_eq_some_iff.1 hj).1
      obtain ⟨r0, hr0, e⟩ := hct j r hj
      rw [if_pos (by omega)] at e
      subst e
      have htx : tss[j]? = some (tss[j]'(by have := him.1; have := (List.getElem?_eq_some_iff.1 hr0).1; omega)) := List.getElem?_eq_getElem (by have := him.1; have := (List.getElem?_eq_some_iff.1 hr0).1; omega)
      have mx : Sl (tInt .u64) All w r0.1 r0.2.1 r0.2.2 _ := him.2 j r0 _ hr0 htx
      exact ⟨_, mx.cut (min r0.2.1 14) (by omega), by show min r0.2.1 14 ≤ 14; omega⟩)
    subst hzr
    have hzl : zs.length = q := by rw [← hrl, List.length_map]
    have hq30 : q ≤ 30 := by omega
    repeat' (first
      | ((apply al_none (t := 44); refine JL_o (OpR_callF en21 rfl (new_r _)) rfl rfl ?_; rintro _ _ ⟨a5, rfl, hf⟩; have hs := hs.fresh hf; simp only [List.cons_append, List.nil_append] at hs))
      | ((apply al_none (t := 45); refine JL_o (OpR_callF en21 rfl (new_r _)) rfl rfl ?_; rintro _ _ ⟨a6, rfl, hf⟩; have hs := hs.fresh hf; simp only [List.cons_append, List.nil_append] at hs))
      | (apply JL_nil)
      | ((apply JL_pure); (first
      | (apply as_move; exact OpR_move rfl is_rfl)
      | (apply as_assign; exact OpR_assign rfl is_rfl)
      | (apply as_binOp; exact OpR_ibin rfl rfl rfl is_rfl)
      | (apply as_b_len; exact OpR_len rfl is_rfl)); first | (exact rfl; exact rfl) | exact rfl)
      | (apply J_seq)
      | (apply J_region)
      | (apply J_block)
      | (apply aj_exit; refine J_exit rfl ?_)
      | (apply al_none (t := 5); refine JL_o (by apply as_alloc; exact OpR_alloc' hs) rfl rfl ?_; rintro _ _ ⟨b5, rfl, hb5, hs, hE⟩)
      | (apply al_none (t := 6); refine JL_o (by apply as_alloc; exact OpR_alloc' hs) rfl rfl ?_; rintro _ _ ⟨b6, rfl, hb6, hs, hE⟩)
      | (apply al_unit; refine JL_u (by apply as_store; exact OpR_store' hs rfl rfl rfl) rfl ?_; rintro _ _ ⟨hs, hF⟩)
      | (apply aj_cond; refine J_dec_f rfl ob ?_))
    refine J_loopK (α := Nat × List Ent × List REnt × Option Addr) [(3, _), (5, _), (6, _), (7, _), (46, _), (47, _)] (fun g => [(48, .int .i64 g.1)]) (fun g w' => St w NoF w' [Blk b5 (.cells #[.slice g.2.2.2 g.2.1.length g.2.1.length] 24 (0, 0)), TabRow g.2.2.2 g.2.1.length g.2.1.length g.2.2.1, Own g.2.2.1 g.2.1, Blk b6 (.cells #[.slice a6 8 8] 24 (0, 0)), TabRow a6 8 8 (newR 8), Own (newR 8) (newE 8), IdsRow a1 q c1 (zs.map Prod.fst)] ∧ Puts g.2.1 ((zs.map Prod.snd).take g.1) ∧ g.1 ≤ q) (fun g => q - g.1) (0, newE 8, newR 8, a5) ⟨hs.sel [1, 4, 5, 0, 2, 3, 6] (by decide), Puts.new, Nat.zero_le _⟩ (by repeat' (first | exact trivial | exact rfl | apply And.intro)) ?_
    rintro ⟨k, es, rs, ad⟩ w3 ⟨hs1, hP, hk3⟩ ih
    dsimp only at hs1 hP hk3 ⊢
    by_cases hlt : k < q
    · have hs : St w NoF w3 [_, _, _, _, _, _, _] := hs1
      obtain ⟨p, o, rfl⟩ := (hs.row a1 q c1).some (by omega)
      have hs : St w NoF w3 [_, _, _, _, _, _, _] := hs1
      have hz : zs[k]? = some (zs[k]'(by omega)) := List.getElem?_eq_getElem (by omega)
      obtain ⟨z, hzd⟩ : ∃ z, z = zs[k]'(by omega) := ⟨_, rfl⟩
      rw [← hzd] at hz
      have hzz := List.mem_of_getElem? hz
      obtain ⟨mx, h14⟩ := hzt z hzz
      have hlen := mx.len
      have hcx : (encL cRS (zs.map Prod.fst))[k]? = some (.slice z.1.1 z.1.2.1 z.1.2.2) := encS_get (by rw [List.getElem?_map, hz]; rfl)
      have htk : (zs.map Prod.snd).take (k + 1) = (zs.map Prod.snd).take k ++ [z.2] := by rw [List.take_add_one, List.getElem?_map, hz]; rfl
      have hcnt : ((zs.map Prod.snd).take k).length < 4000 := by rw [List.length_take, List.length_map]; omega
      have hbE := hP.len
      have hinK : inK .i64 (z.1.2.1 : Int) := by unfold inK; omega
      by_cases hp : putE es z.2 z.1.2.1 = 0
      · repeat' (first
          | ((apply al_none (t := 55); refine JL_o (OpR_callV rfl rfl (Ret.value (cap := #[]) en31 (order1_ok _ ad es.length es.length es z.1.1 z.1.2.1 z.1.2.2 z.2 (slOwn (rs := rs) hs (by repeat (first | exact List.Mem.head _ | apply List.Mem.tail)) (by repeat (first | exact List.Mem.head _ | apply List.Mem.tail))) hbE (mx.st hs) hinK hp))) rfl rfl ?_; rintro _ _ ⟨es2, rs2, ad2, ⟨hc2, hm2, hl2⟩, rfl, hf⟩; have hs := hs.fresh hf; simp only [List.cons_append, List.nil_append] at hs))
          | (apply JL_nil)
          | ((apply JL_pure); (first
      | (apply as_load; first | exact OpR_load' hs rfl rfl is_rfl | exact OpR_load_agg' hs rfl is_rfl | exact OpR_loadRow (b := p) (o := o) (i := k) (n := q) (c := c1) hs rfl hcx is_rfl)
      | (apply as_move; exact OpR_move rfl is_rfl)
      | (apply as_assign; exact OpR_assign rfl is_rfl)
      | (apply as_add; exact OpR_addn rfl rfl (by omega) (by first | (simp only [Int.reduceAdd]; exact rfl) | exact rfl) is_rfl)
      | (apply as_binOp; exact OpR_ibin rfl rfl rfl is_rfl)
      | (apply as_indexAddr; exact OpR_indexAddr rfl rfl (by omega) (by omega) is_rfl)); first | (exact rfl; exact rfl) | exact rfl)
          | (apply J_seq)
          | (apply J_region)
          | (apply J_block)
          | (apply J_inBlock)
          | (apply J_skip)
          | (apply al_unit; refine JL_u (by apply as_store; exact OpR_store' hs rfl rfl rfl) rfl ?_; rintro _ _ ⟨hs, hF⟩)
          | (apply aj_cond; refine J_dec_t rfl ob ?_))
        refine ih (k + 1, es2, rs2, ad2) _ _ ⟨hs.sel [2, 0, 1, 5, 6, 7, 8] (by decide), by rw [htk]; exact hP.put (by rw [hlen]; exact hp) hc2 (by rw [hlen]; exact hm2) hl2, hlt⟩ (by show q - (k + 1) < q - k; omega) (by repeat' (first | exact trivial | exact rfl | apply And.intro))
      · repeat' (first
          | ((apply al_none (t := 55); refine JL_o (OpR_callV rfl rfl (Ret.value (cap := #[]) en31 (order1_no _ ad es.length es.length es z.1.1 z.1.2.1 z.1.2.2 z.2 (slOwn (rs := rs) hs (by repeat (first | exact List.Mem.head _ | apply List.Mem.tail)) (by repeat (first | exact List.Mem.head _ | apply List.Mem.tail))) hbE (mx.st hs) hinK hp))) rfl rfl ?_; rintro _ _ ⟨rfl, hE⟩; have hs := hs.ext hE))
          | (apply JL_nil)
          | ((apply JL_pure); (first
      | (apply as_load; first | exact OpR_load' hs rfl rfl is_rfl | exact OpR_load_agg' hs rfl is_rfl | exact OpR_loadRow (b := p) (o := o) (i := k) (n := q) (c := c1) hs rfl hcx is_rfl)
      | (apply as_move; exact OpR_move rfl is_rfl)
      | (apply as_assign; exact OpR_assign rfl is_rfl)
      | (apply as_add; exact OpR_addn rfl rfl (by omega) (by first | (simp only [Int.reduceAdd]; exact rfl) | exact rfl) is_rfl)
      | (apply as_binOp; exact OpR_ibin rfl rfl rfl is_rfl)
      | (apply as_indexAddr; exact OpR_indexAddr rfl rfl (by omega) (by omega) is_rfl)); first | (exact rfl; exact rfl) | exact rfl)
          | (apply J_seq)
          | (apply J_region)
          | (apply J_block)
          | (apply J_inBlock)
          | (apply J_skip)
          | (apply al_unit; refine JL_u (by apply as_store; exact OpR_store' hs rfl rfl rfl) rfl ?_; rintro _ _ ⟨hs, hF⟩)
          | (apply aj_cond; refine J_dec_t rfl ob ?_))
        refine ih (k + 1, es, rs, ad) _ _ ⟨hs, by rw [htk]; exact hP.keep hcnt (by rw [hlen]; exact hp), hlt⟩ (by show q - (k + 1) < q - k; omega) (by repeat' (first | exact trivial | exact rfl | apply And.intro))
    · have hs : St w NoF w3 [_, _, _, _, _, _, _] := hs1
      have hP5 : Puts es (zs.map Prod.snd) := by rw [List.take_of_length_le (by rw [List.length_map]; omega)] at hP; exact hP
      repeat' (first
        | ((apply al_none (t := 58); have hs2 : St w NoF _ ([IdsRow a1 q c1 (zs.map Prod.fst)] ++ [_, _, _, _, _, _]) := hs.sel [6, 0, 1, 2, 3, 4, 5] (by decide); refine JL_o (OpR_callF en32 rfl (reverse_r _ a1 q c1 _ (St.held (A := [_]) hs2) (by rw [List.length_map]; exact hzl) (by omega))) rfl rfl ?_; rintro _ _ ht; have hs := St.take (A := [_]) (A' := [_]) hs2 ht))
        | (apply JL_nil)
        | ((apply JL_pure); (first
      | (apply as_move; exact OpR_move rfl is_rfl)
      | (apply as_binOp; exact OpR_ibin rfl rfl rfl is_rfl)
      | (apply as_b_len; exact OpR_len rfl is_rfl)); first | (exact rfl; exact rfl) | exact rfl)
        | (apply J_seq)
        | (apply J_region)
        | (apply J_block)
        | (apply aj_exit; refine J_exit rfl ?_)
        | (apply aj_cond; refine J_dec_f rfl ob ?_))
      rw [← List.map_reverse] at hs
      obtain ⟨ys, hys⟩ : ∃ ys, ys = zs.reverse := ⟨_, rfl⟩
      rw [← hys] at hs
      have hyl : ys.length = q := by rw [hys, List.length_reverse]; exact hzl
      have hym : ∀ z, z ∈ ys ↔ z ∈ zs := fun z => by rw [hys, List.mem_reverse]
      refine J_loopK (α := Nat × List Ent × List REnt × Option Addr) [(3, _), (5, _), (6, _), (7, _), (59, _), (60, _)] (fun g => [(61, .int .i64 g.1)]) (fun g w' => St w NoF w' [Blk b6 (.cells #[.slice g.2.2.2 g.2.1.length g.2.1.length] 24 (0, 0)), TabRow g.2.2.2 g.2.1.length g.2.1.length g.2.2.1, Own g.2.2.1 g.2.1, Blk b5 (.cells #[.slice ad es.length es.length] 24 (0, 0)), TabRow ad es.length es.length rs, Own rs es, IdsRow a1 q c1 (ys.map Prod.fst)] ∧ Puts g.2.1 ((ys.map Prod.snd).take g.1) ∧ g.1 ≤ q) (fun g => q - g.1) (0, newE 8, newR 8, a6) ⟨hs.sel [4, 5, 6, 1, 2, 3, 0] (by decide), Puts.new, Nat.zero_le _⟩ (by repeat' (first | exact trivial | exact rfl | apply And.intro)) ?_
      rintro ⟨k2, es6, rs6, ad6⟩ w4 ⟨hs1, hP6, hk4⟩ ih
      dsimp only at hs1 hP6 hk4 ⊢
      by_cases hlt : k2 < q
      · have hs : St w NoF w4 [_, _, _, _, _, _, _] := hs1
        obtain ⟨p, o, rfl⟩ := (hs.row a1 q c1).some (by omega)
        have hs : St w NoF w4 [_, _, _, _, _, _, _] := hs1
        have hz : ys[k2]? = some (ys[k2]'(by omega)) := List.getElem?_eq_getElem (by omega)
        obtain ⟨z, hzd⟩ : ∃ z, z = ys[k2]'(by omega) := ⟨_, rfl⟩
        rw [← hzd] at hz
        have hzz := (hym z).1 (List.mem_of_getElem? hz)
        obtain ⟨mx, h14⟩ := hzt z hzz
        have hlen := mx.len
        have hcx : (encL cRS (ys.map Prod.fst))[k2]? = some (.slice z.1.1 z.1.2.1 z.1.2.2) := encS_get (by rw [List.getElem?_map, hz]; rfl)
        have htk : (ys.map Prod.snd).take (k2 + 1) = (ys.map Prod.snd).take k2 ++ [z.2] := by rw [List.take_add_one, List.getElem?_map, hz]; rfl
        have hcnt : ((ys.map Prod.snd).take k2).length < 4000 := by rw [List.length_take, List.length_map]; omega
        have hbE := hP6.len
        have hinK : inK .i64 (z.1.2.1 : Int) := by unfold inK; omega
        by_cases hp : putE es6 z.2 z.1.2.1 = 0
        · repeat' (first
            | ((apply al_none (t := 68); refine JL_o (OpR_callV rfl rfl (Ret.value (cap := #[]) en31 (order1_ok _ ad6 es6.length es6.length es6 z.1.1 z.1.2.1 z.1.2.2 z.2 (slOwn (rs := rs6) hs (by repeat (first | exact List.Mem.head _ | apply List.Mem.tail)) (by repeat (first | exact List.Mem.head _ | apply List.Mem.tail))) hbE (mx.st hs) hinK hp))) rfl rfl ?_; rintro _ _ ⟨es2, rs2, ad2, ⟨hc2, hm2, hl2⟩, rfl, hf⟩; have hs := hs.fresh hf; simp only [List.cons_append, List.nil_append] at hs))
            | (apply JL_nil)
            | ((apply JL_pure); (first
      | (apply as_load; first | exact OpR_load' hs rfl rfl is_rfl | exact OpR_load_agg' hs rfl is_rfl | exact OpR_loadRow (b := p) (o := o) (i := k2) (n := q) (c := c1) hs rfl hcx is_rfl)
      | (apply as_move; exact OpR_move rfl is_rfl)
      | (apply as_assign; exact OpR_assign rfl is_rfl)
      | (apply as_add; exact OpR_addn rfl rfl (by omega) (by first | (simp only [Int.reduceAdd]; exact rfl) | exact rfl) is_rfl)
      | (apply as_binOp; exact OpR_ibin rfl rfl rfl is_rfl)
      | (apply as_indexAddr; exact OpR_indexAddr rfl rfl (by omega) (by omega) is_rfl)); first | (exact rfl; exact rfl) | exact rfl)
            | (apply J_seq)
            | (apply J_region)
            | (apply J_block)
            | (apply J_inBlock)
            | (apply J_skip)
            | (apply al_unit; refine JL_u (by apply as_store; exact OpR_store' hs rfl rfl rfl) rfl ?_; rintro _ _ ⟨hs, hF⟩)
            | (apply aj_cond; refine J_dec_t rfl ob ?_))
          refine ih (k2 + 1, es2, rs2, ad2) _ _ ⟨hs.sel [2, 0, 1, 5, 6, 7, 8] (by decide), by rw [htk]; exact hP6.put (by rw [hlen]; exact hp) hc2 (by rw [hlen]; exact hm2) hl2, hlt⟩ (by show q - (k2 + 1) < q - k2; omega) (by repeat' (first | exact trivial | exact rfl | apply And.intro))
        · repeat' (first
            | ((apply al_none (t := 68); refine JL_o (OpR_callV rfl rfl (Ret.value (cap := #[]) en31 (order1_no _ ad6 es6.length es6.length es6 z.1.1 z.1.2.1 z.1.2.2 z.2 (slOwn (rs := rs6) hs (by repeat (first | exact List.Mem.head _ | apply List.Mem.tail)) (by repeat (first | exact List.Mem.head _ | apply List.Mem.tail))) hbE (mx.st hs) hinK hp))) rfl rfl ?_; rintro _ _ ⟨rfl, hE⟩; have hs := hs.ext hE))
            | (apply JL_nil)
            | ((apply JL_pure); (first
      | (apply as_load; first | exact OpR_load' hs rfl rfl is_rfl | exact OpR_load_agg' hs rfl is_rfl | exact OpR_loadRow (b := p) (o := o) (i := k2) (n := q) (c := c1) hs rfl hcx is_rfl)
      | (apply as_move; exact OpR_move rfl is_rfl)
      | (apply as_assign; exact OpR_assign rfl is_rfl)
      | (apply as_add; exact OpR_addn rfl rfl (by omega) (by first | (simp only [Int.reduceAdd]; exact rfl) | exact rfl) is_rfl)
      | (apply as_binOp; exact OpR_ibin rfl rfl rfl is_rfl)
      | (apply as_indexAddr; exact OpR_indexAddr rfl rfl (by omega) (by omega) is_rfl)); first | (exact rfl; exact rfl) | exact rfl)
            | (apply J_seq)
            | (apply J_region)
            | (apply J_block)
            | (apply J_inBlock)
            | (apply J_skip)
            | (apply al_unit; refine JL_u (by apply as_store; exact OpR_store' hs rfl rfl rfl) rfl ?_; rintro _ _ ⟨hs, hF⟩)
            | (apply aj_cond; refine J_dec_t rfl ob ?_))
          refine ih (k2 + 1, es6, rs6, ad6) _ _ ⟨hs, by rw [htk]; exact hP6.keep hcnt (by rw [hlen]; exact hp), hlt⟩ (by show q - (k2 + 1) < q - k2; omega) (by repeat' (first | exact trivial | exact rfl | apply And.intro))
      · have hs : St w NoF w4 [_, _, _, _, _, _, _] := hs1
        have hP7 : Puts es6 (ys.map Prod.snd) := by rw [List.take_of_length_le (by rw [List.length_map]; omega)] at hP6; exact hP6
        have hsame : allF es = allF es6 := hP5.same hP7 fun t => by
          rw [List.mem_map, List.mem_map]
          constructor <;> rintro ⟨z, h1, h2⟩
          · exact ⟨z, (hym z).2 h1, h2⟩
          · exact ⟨z, (hym z).1 h1, h2⟩
        have hb5 := hP5.len
        have hb6 := hP7.len
        repeat' (first
          | (apply JL_nil)
          | ((apply JL_pure); (first
      | (apply as_move; exact OpR_move rfl is_rfl)
      | (apply as_binOp; exact OpR_ibin rfl rfl rfl is_rfl)
      | (apply as_b_len; exact OpR_len rfl is_rfl)); first | (exact rfl; exact rfl) | exact rfl)
          | (apply J_seq)
          | (apply J_region)
          | (apply J_block)
          | (apply aj_exit; refine J_exit rfl ?_)
          | (apply aj_cond; refine J_dec_f rfl ob ?_))
        refine J_loopK (α := Nat) [(5, _), (6, _), (70, _), (71, _)] (fun k => [(72, .int .i64 k)]) (fun k w' => St w NoF w' [Blk b5 (.cells #[.slice ad es.length es.length] 24 (0, 0)), TabRow ad es.length es.length rs, Own rs es, Blk b6 (.cells #[.slice ad6 es6.length es6.length] 24 (0, 0)), TabRow ad6 es6.length es6.length rs6, Own rs6 es6, IdsRow a1 q c1 (ys.map Prod.fst)] ∧ k ≤ q) (fun k => q - k) 0 ⟨hs.sel [3, 4, 5, 0, 1, 2, 6] (by decide), Nat.zero_le _⟩ (by repeat' (first | exact trivial | exact rfl | apply And.intro)) ?_
        rintro k5 w5 ⟨hs1, hk5⟩ ih
        by_cases hlt : k5 < q
        · have hs : St w NoF w5 [_, _, _, _, _, _, _] := hs1
          obtain ⟨p, o, rfl⟩ := (hs.row a1 q c1).some (by omega)
          have hs : St w NoF w5 [_, _, _, _, _, _, _] := hs1
          have hz : ys[k5]? = some (ys[k5]'(by omega)) := List.getElem?_eq_getElem (by omega)
          obtain ⟨z, hzd⟩ : ∃ z, z = ys[k5]'(by omega) := ⟨_, rfl⟩
          rw [← hzd] at hz
          have hzz := (hym z).1 (List.mem_of_getElem? hz)
          obtain ⟨mx, h14⟩ := hzt z hzz
          have hlen := mx.len
          have hcx : (encL cRS (ys.map Prod.fst))[k5]? = some (.slice z.1.1 z.1.2.1 z.1.2.2) := encS_get (by rw [List.getElem?_map, hz]; rfl)
          have hfd := hP5.find (t := z.2) (List.mem_map_of_mem hzz)
          obtain ⟨tb, htb⟩ : ∃ tb, tb = typeB z.2 := ⟨_, rfl⟩
          rw [← htb] at hfd
          cases tb with
          | true =>
            rw [if_pos rfl, hlen] at hfd
            repeat' (first
              | ((apply al_call 19; refine JL_o (by exact OpR_callF en19 rfl (find_r _ ad es.length es.length es z.1.1 z.1.2.1 z.1.2.2 z.2 (slOwn (rs := rs) hs (by repeat (first | exact List.Mem.head _ | apply List.Mem.tail)) (by repeat (first | exact List.Mem.head _ | apply List.Mem.tail))) hb5 (mx.st hs))) rfl rfl ?_; rintro _ _ ⟨rfl, hE⟩; rw [hfd]; have hs := hs.ext hE; (try simp only [List.cons_append, List.nil_append] at hs)))
              | ((apply al_call 33; refine JL_o (by exact OpR_callF en33 rfl (tcheck_r _ z.1.1 z.1.2.1 z.1.2.2 z.2 (mx.st hs))) rfl rfl ?_; rintro _ _ ⟨rfl, hE⟩; rw [← htb, if_pos rfl]; have hs := hs.ext hE; (try simp only [List.cons_append, List.nil_append] at hs)))
              | (apply JL_nil)
              | ((first | (apply JL_pure) | (apply JL_pure_on; exact rfl; exact gb)); (first
      | (apply as_load; first | exact OpR_load' hs rfl rfl is_rfl | exact OpR_load_agg' hs rfl is_rfl | exact OpR_loadRow (b := p) (o := o) (i := k5) (n := q) (c := c1) hs rfl hcx is_rfl)
      | (apply as_move; exact OpR_move rfl is_rfl)
      | (apply as_assign; exact OpR_assign rfl is_rfl)
      | (apply as_add; exact OpR_addn rfl rfl (by omega) (by first | (simp only [Int.reduceAdd]; exact rfl) | exact rfl) is_rfl)
      | (apply as_binOp; first | exact OpR_ibin rfl rfl rfl is_rfl | exact OpR_bne rfl rfl is_rfl)
      | (apply as_pick; first | exact OpR_pick_t rfl gb rfl is_rfl | exact OpR_pick_f rfl gb rfl is_rfl)
      | (apply as_b_len; exact OpR_len rfl is_rfl)
      | (apply as_extract; exact OpR_extract rfl rfl is_rfl)
      | (apply as_indexAddr; exact OpR_indexAddr rfl rfl (by omega) (by omega) is_rfl)); first | (exact rfl; exact rfl) | exact rfl)
              | (apply J_seq)
              | (apply J_region)
              | (apply J_block)
              | (apply J_inBlock)
              | (apply J_skip)
              | (apply aj_cond; first | refine J_dec_t rfl ob ?_ | refine J_dec_f rfl ob ?_))
            refine ih (k5 + 1) _ _ ⟨hs, hlt⟩ (by omega) (by repeat' (first | exact trivial | exact rfl | apply And.intro))
          | false =>
            rw [if_neg (by decide)] at hfd
            repeat' (first
              | ((apply al_call 19; refine JL_o (by exact OpR_callF en19 rfl (find_r _ ad es.length es.length es z.1.1 z.1.2.1 z.1.2.2 z.2 (slOwn (rs := rs) hs (by repeat (first | exact List.Mem.head _ | apply List.Mem.tail)) (by repeat (first | exact List.Mem.head _ | apply List.Mem.tail))) hb5 (mx.st hs))) rfl rfl ?_; rintro _ _ ⟨rfl, hE⟩; rw [hfd]; have hs := hs.ext hE; (try simp only [List.cons_append, List.nil_append] at hs)))
              | ((apply al_call 33; refine JL_o (by exact OpR_callF en33 rfl (tcheck_r _ z.1.1 z.1.2.1 z.1.2.2 z.2 (mx.st hs))) rfl rfl ?_; rintro _ _ ⟨rfl, hE⟩; rw [← htb, if_neg (by decide)]; have hs := hs.ext hE; (try simp only [List.cons_append, List.nil_append] at hs)))
              | (apply JL_nil)
              | ((first | (apply JL_pure) | (apply JL_pure_on; exact rfl; exact gb)); (first
      | (apply as_load; first | exact OpR_load' hs rfl rfl is_rfl | exact OpR_load_agg' hs rfl is_rfl | exact OpR_loadRow (b := p) (o := o) (i := k5) (n := q) (c := c1) hs rfl hcx is_rfl)
      | (apply as_move; exact OpR_move rfl is_rfl)
      | (apply as_assign; exact OpR_assign rfl is_rfl)
      | (apply as_add; exact OpR_addn rfl rfl (by omega) (by first | (simp only [Int.reduceAdd]; exact rfl) | exact rfl) is_rfl)
      | (apply as_binOp; first | exact OpR_ibin rfl rfl rfl is_rfl | exact OpR_bne rfl rfl is_rfl)
      | (apply as_pick; exact OpR_pick_f rfl gb rfl is_rfl)
      | (apply as_extract; exact OpR_extract rfl rfl is_rfl)
      | (apply as_indexAddr; exact OpR_indexAddr rfl rfl (by omega) (by omega) is_rfl)); first | (exact rfl; exact rfl) | exact rfl)
              | (apply J_seq)
              | (apply J_region)
              | (apply J_block)
              | (apply J_inBlock)
              | (apply J_skip)
              | (apply al_guard; (refine JL_no rfl gb rfl ?_))
              | (apply aj_cond; first | refine J_dec_t rfl ob ?_ | refine J_cond_f rfl gb ?_))
            refine ih (k5 + 1) _ _ ⟨hs, hlt⟩ (by omega) (by repeat' (first | exact trivial | exact rfl | apply And.intro))
        · have hs : St w NoF w5 [_, _, _, _, _, _, _] := hs1
          repeat' (first
            | ((apply al_call 34; refine JL_o (by exact OpR_callF en34 rfl (same_r _ ad ad6 es.length es.length es6.length es6.length es es6 (slOwn (rs := rs) hs (by repeat (first | exact List.Mem.head _ | apply List.Mem.tail)) (by repeat (first | exact List.Mem.head _ | apply List.Mem.tail))) (slOwn (rs := rs6) hs (by repeat (first | exact List.Mem.head _ | apply List.Mem.tail)) (by repeat (first | exact List.Mem.head _ | apply List.Mem.tail))) hb5 hb6)) rfl rfl ?_; rintro _ _ ⟨rfl, hE⟩; rw [decide_eq_true hsame]; have hs := hs.ext hE; (try simp only [List.cons_append, List.nil_append] at hs)))
            | ((apply al_callg 16; refine JL_o_on rfl gb (by exact OpR_callF en16 rfl (lcheck_r _ ad es.length es.length es (slOwn (rs := rs) hs (by repeat (first | exact List.Mem.head _ | apply List.Mem.tail)) (by repeat (first | exact List.Mem.head _ | apply List.Mem.tail))) hb5)) rfl rfl ?_; rintro _ _ ⟨rfl, hE⟩; rw [if_pos hP5.chk]; have hs := hs.ext hE; (try simp only [List.cons_append, List.nil_append] at hs)))
            | (apply JL_nil)
            | ((first | (apply JL_pure) | (apply JL_pure_on; exact rfl; exact gb)); (first
      | (apply as_move; exact OpR_move rfl is_rfl)
      | (apply as_assign; exact OpR_assign rfl is_rfl)
      | (apply as_load; exact OpR_load_agg' hs rfl is_rfl)
      | (apply as_binOp; exact OpR_ibin rfl rfl rfl is_rfl)
      | (apply as_pick; exact OpR_pick_t rfl gb rfl is_rfl)); first | (exact rfl; exact rfl) | exact rfl)
            | (apply J_seq)
            | (apply J_region)
            | (apply aj_exit; refine J_exit rfl ?_)
            | (apply aj_cond; refine J_dec_f rfl ob ?_))
          refine J_leave Try.func5 rfl (.tmp rfl .nil) ⟨congrArg Value.bool (decide_eq_true rfl), hs.frm.ext⟩
end Go.Eng
