/- The texts LS, L11, L12, L13, L14, L15, L16, L17, L18, L19, L20, joined. -/
import Derived.Test.YtcoldgkhlkjjmaaY1
import Derived.Test.YtcoldgkhlkjjmaaE26
import Derived.Ground.SlsfProg
import Derived.Shelf.SlLaysF0
/- Lookups: the sort of entries, as it is laid in this program (saylay.py 145 Try.sortEnt). -/
namespace Go.Proofs
def Try.sortEnt_ren : Go.Shelf.Ren := ⟨fun | 6 => 145 | 15 => 153 | 14 => 161 | 28 => 172 | 29 => 173 | 20 => 176 | 21 => 177 | 22 => 178 | 23 => 179 | 24 => 180 | 25 => 181 | 26 => 182 | 27 => 183 | 46 => 192 | 47 => 187 | 48 => 188 | 49 => 193 | 50 => 194 | 57 => 197 | n => n, fun | 22 => 22 | 24 => 39 | 25 => 140 | 3 => 3 | 39 => 157 | 0 => 0 | 53 => 192 | 55 => 40 | 4 => 4 | 46 => 186 | 45 => 185 | 50 => 35 | 5 => 5 | 9 => 9 | 66 => 202 | 70 => 206 | 76 => 214 | 77 => 83 | n => n, fun | n => n⟩
theorem Try.sortEnt : Go.Proofs.SlLaysF0.n6 Try.prog Try.sortEnt_ren := ⟨
by kernel_rfl,
⟨Try.f145.name, by decide, Try.func145.trans (congrArg some (by kernel_rfl))⟩,
⟨Try.f161.name, by decide, Try.func161.trans (congrArg some (by kernel_rfl))⟩,
Try.func153.trans (congrArg some (by kernel_rfl)),
⟨Try.f176.name, by decide, Try.func176.trans (congrArg some (by kernel_rfl))⟩,
⟨Try.f177.name, by decide, Try.func177.trans (congrArg some (by kernel_rfl))⟩,
⟨Try.f178.name, by decide, Try.func178.trans (congrArg some (by kernel_rfl))⟩,
⟨Try.f179.name, by decide, Try.func179.trans (congrArg some (by kernel_rfl))⟩,
⟨Try.f180.name, by decide, Try.func180.trans (congrArg some (by kernel_rfl))⟩,
⟨Try.f181.name, by decide, Try.func181.trans (congrArg some (by kernel_rfl))⟩,
⟨Try.f182.name, by decide, Try.func182.trans (congrArg some (by kernel_rfl))⟩,
⟨Try.f183.name, by decide, Try.func183.trans (congrArg some (by kernel_rfl))⟩,
Try.func172.trans (congrArg some (by kernel_rfl)),
Try.func173.trans (congrArg some (by kernel_rfl)),
⟨Try.f192.name, by decide, Try.func192.trans (congrArg some (by kernel_rfl))⟩,
Try.func187.trans (congrArg some (by kernel_rfl)),
Try.func188.trans (congrArg some (by kernel_rfl)),
⟨Try.f193.name, by decide, Try.func193.trans (congrArg some (by kernel_rfl))⟩,
⟨Try.f194.name, by decide, Try.func194.trans (congrArg some (by kernel_rfl))⟩,
⟨Try.f197.name, by decide, Try.func197.trans (congrArg some (by kernel_rfl))⟩,
Try.underlying0,
Try.isAgg0,
Try.sizeOf0,
Try.zeroValue0,
Try.underlying3,
Try.isAgg3,
Try.sizeOf3,
Try.zeroValue3,
Try.underlying4,
Try.isAgg4,
Try.sizeOf4,
Try.zeroValue4,
Try.underlying5,
Try.isAgg5,
Try.sizeOf5,
Try.zeroValue5,
Try.underlying9,
Try.isAgg9,
Try.sizeOf9,
Try.zeroValue9,
Try.underlying22,
Try.isAgg22,
Try.sizeOf22,
Try.zeroValue22,
Try.underlying140,
Try.isAgg140,
Try.sizeOf140,
Try.zeroValue140,
Try.underlying157,
Try.isAgg157,
Try.sizeOf157,
Try.zeroValue157,
Try.underlying185,
Try.isAgg185,
Try.sizeOf185,
Try.zeroValue185,
Try.underlying186,
Try.isAgg186,
Try.sizeOf186,
Try.zeroValue186,
Try.underlying35,
Try.isAgg35,
Try.sizeOf35,
Try.zeroValue35,
Try.underlying192,
Try.isAgg192,
Try.sizeOf192,
Try.zeroValue192,
Try.underlying40,
Try.isAgg40,
Try.sizeOf40,
Try.zeroValue40,
Try.underlying202,
Try.isAgg202,
Try.sizeOf202,
Try.zeroValue202,
Try.underlying206,
Try.isAgg206,
Try.sizeOf206,
Try.zeroValue206,
Try.underlying214,
Try.isAgg214,
Try.sizeOf214,
Try.zeroValue214,
Try.underlying83,
Try.isAgg83,
Try.sizeOf83,
Try.zeroValue83⟩

end Go.Proofs
/- Lookups: entries in order. -/
namespace Go.Eng
open Go.Proofs
set_option linter.unusedSimpArgs false
set_option linter.unusedVariables false
theorem MeanV.zip {ρ α : Type} {m : Rel ρ α} {R : Nat → Prop} {w : World} {rs : List ρ} {xs : List α} (h : MeanV m R w rs xs) : ∀ p ∈ rs.zip xs, m.rel R w p.1 p.2 := by
  intro p hp
  obtain ⟨i, hi⟩ := List.mem_iff_getElem?.1 hp
  rw [List.getElem?_zip_eq_some] at hi
  exact h.2 i _ _ hi.1 hi.2
theorem MeanV.of_perm {ρ α : Type} {m : Rel ρ α} {R : Nat → Prop} {w : World} {rs : List ρ} {xs : List α} (h : MeanV m R w rs xs) {zs : List (ρ × α)} (hz : zs.Perm (rs.zip xs)) : MeanV m R w (zs.map Prod.fst) (zs.map Prod.snd) := by
  refine ⟨by simp, fun i c x hc hx => ?_⟩
  rw [List.getElem?_map] at hc hx
  obtain ⟨p, hp, rfl⟩ := Option.map_eq_some_iff.1 hc
  rw [hp] at hx
  cases hx
  exact h.zip p (hz.mem_iff.1 (List.mem_of_getElem? hp))
theorem entOld {R : Nat → Prop} {w : World} {r : REnt} {x : Ent} (h : mEnt.rel R w r x) : mEnt.rel (fun k => k < w.heap.size) w r x :=
  ⟨h.1, Sl.weak (Sl.foc h.2.1) (fun k hk => Sl.below (d := tInt .u64) (by decide) h.2.1 k hk), h.2.2⟩
theorem meanOld {R : Nat → Prop} {w : World} {rs : List REnt} {es : List Ent} (h : MeanV mEnt R w rs es) : MeanV mEnt (fun k => k < w.heap.size) w rs es := ⟨h.1, fun i r x hr hx => entOld (h.2 i r x hr hx)⟩
abbrev r0 : REnt := (0, (none, 0, 0), 0)
theorem r0_rel (R : Nat → Prop) (w : World) : mEnt.rel R w r0 e0 :=
  ⟨rfl, ⟨Nat.le_refl _, by unfold maxLen; show (0 : Nat) ≤ _; omega, fun _ => rfl, ⟨rfl, fun _ => rfl, fun h => by exact absurd h (Nat.lt_irrefl 0), fun _ _ h _ => by (cases h), fun i x hx => by simp at hx⟩⟩, rfl⟩
/-- A raw entry, and what it means. -/
abbrev VE (R : Nat → Prop) (w : World) : Type := {p : REnt × Ent // mEnt.rel R w p.1 p.2}
instance (R : Nat → Prop) (w : World) : Inhabited (VE R w) := ⟨⟨(r0, e0), r0_rel R w⟩⟩
theorem splice_all {cs vs : List Value} (h : cs.length = vs.length) : splice cs (0 * 3) vs = vs := by unfold splice; rw [List.drop_of_length_le (by omega)]; simp
attribute [local irreducible] Hold J JL JD JX JXat OpR OpG Ret RetV Is Blk Row MapC
set_option maxRecDepth 100000
set_option maxHeartbeats 1000000
theorem used1_r (w : World) (r1 r2 : REnt) (x1 x2 : Ent) (h1 : mEnt.rel All w r1 x1) (h2 : mEnt.rel All w r2 x2) :
    Ret Try.prog 109 #[.agg (cREnt r1).toArray, .agg (cREnt r2).toArray] w fun v w' => v = .int .i64 (cmpL x1.2.1 x2.2.1) ∧ Ext w w' := by
  refine Ret_of (l := [_, _]) Try.func109 rfl Try.ntmps109 (by simp) ?_
  have hs := St.init w
  have s1 := h1.2.1
  have s2 := h2.2.1
  repeat' (first
    | ((apply al_call 110; refine JL_o (by exact OpR_callF en110 rfl (tcompare_r _ r1.2.1.1 r2.2.1.1 r1.2.1.2.1 r1.2.1.2.2 r2.2.1.2.1 r2.2.1.2.2 x1.2.1 x2.2.1 (Sl.st s1 hs) (Sl.st s2 hs))) rfl rfl ?_; rintro _ _ ⟨rfl, hE⟩; have hs := hs.ext hE; (try simp only [List.cons_append, List.nil_append] at hs)))
    | (apply JL_nil)
    | ((apply JL_pure); (first
      | (apply as_assign; exact OpR_assign rfl is_rfl)
      | (apply as_fieldAddr; exact OpR_fieldAddr0 rfl rfl is_rfl)
      | (apply as_load; exact OpR_load' hs rfl rfl is_rfl)); first | (exact rfl; exact rfl) | exact rfl)
    | (apply J_seq)
    | (apply J_region)
    | (apply al_none (t := 2); refine JL_o (by apply as_box; exact OpR_box' hs rfl) rfl rfl ?_; rintro _ _ ⟨b2, rfl, hb2, hs, hE⟩)
    | (apply al_none (t := 3); refine JL_o (by apply as_box; exact OpR_box' hs rfl) rfl rfl ?_; rintro _ _ ⟨b3, rfl, hb3, hs, hE⟩))
  refine J_leave Try.func109 rfl (.tmp rfl .nil) ⟨rfl, hs.frm.ext⟩
theorem used2_r (w : World) (r : REnt) :
    Ret Try.prog 112 #[.agg (cREnt r).toArray] w fun v w' => v = .bool (decide (r.1 ≠ 1)) ∧ Ext w w' := by
  refine Ret_of (l := [_]) Try.func112 rfl Try.ntmps112 (by simp) ?_
  have hs := St.init w
  repeat' (first
    | (apply JL_nil)
    | ((apply JL_pure); (first
      | (apply as_assign; exact OpR_assign rfl is_rfl)
      | (apply as_fieldAddr; exact OpR_fieldAddr0 rfl rfl is_rfl)
      | (apply as_load; exact OpR_load' hs rfl rfl is_rfl)
      | (apply as_binOp; exact OpR_ibin rfl rfl rfl is_rfl)); first | (exact rfl; exact rfl) | exact rfl)
    | (apply J_seq)
    | (apply J_region)
    | (apply al_none (t := 1); refine JL_o (by apply as_box; exact OpR_box' hs rfl) rfl rfl ?_; rintro _ _ ⟨b1, rfl, hb1, hs, hE⟩))
  refine J_leave Try.func112 rfl (.tmp rfl .nil) ⟨rfl, hs.frm.ext⟩
theorem sortEnt_r (w : World) (a : Option Addr) (n c e : Nat) (rs : List REnt) (es : List Ent) (R : Nat → Prop) (hr : Held w [Row a n c e 3 (encL cREnt rs)]) (hd : MeanV mEnt R w rs es) (hsep : ∀ k, R k → ¬ afoot a k) (hn : n ≤ 4000000000) :
    Ret Try.prog 145 #[.slice a n c, .func (.func 109) #[] #[]] w fun _ w' => ∃ zs : List (REnt × Ent), zs.Perm (rs.zip es) ∧ (zs.map Prod.snd).Pairwise (fun x y => 0 ≤ cmpL y.2.1 x.2.1) ∧ Turn w [Row a n c e 3 (encL cREnt rs)] w' [Row a n c e 3 (encL cREnt (zs.map Prod.fst))] := by
  obtain ⟨xs, hxs⟩ : ∃ xs : List (VE R w), xs = (rs.zip es).pmap (fun p h => ⟨p, h⟩) hd.zip := ⟨_, rfl⟩
  have e1 : xs.map Subtype.val = rs.zip es := by rw [hxs, List.map_pmap]; simp
  have e2 : encL (fun p : VE R w => cREnt p.1.1) xs = encL cREnt rs := by
    have : xs.map (fun p => p.1.1) = (xs.map Subtype.val).map Prod.fst := by simp
    rw [e1, List.map_fst_zip (by rw [hd.1]; exact Nat.le_refl _)] at this
    rw [← this]; unfold encL; rw [List.flatMap_map]
  have hr' : Held w [Row a n c e 3 (encL (fun p : VE R w => cREnt p.1.1) xs)] := by rw [e2]; exact hr
  have h := sortK (P := Try.prog) (ρ := Try.sortEnt_ren) (k := 3) (enc := fun p : VE R w => cREnt p.1.1) Try.sortEnt (by decide) Try.isAgg39 Try.sizeOf39 (fun _ => rfl) (fun p v hv => by
    simp only [List.mem_cons, List.not_mem_nil, or_false] at hv
    rcases hv with rfl | rfl | rfl <;> rfl) (fun x y => cmpL x.1.2.2.1 y.1.2.2.1) (cmpL_swo _) (g := 109) en109 #[] hr' hn (fun W hW x y => by
    have h1 := mEnt.loc x.2 (fun k hk hlt => hW.old k hlt (hsep k hk))
    have h2 := mEnt.loc y.2 (fun k hk hlt => hW.old k hlt (hsep k hk))
    exact used1_r W _ _ _ _ (mEnt.weak h1 (fun _ _ => trivial)) (mEnt.weak h2 (fun _ _ => trivial)))
  refine h.mono fun v w' ⟨ys, hp, hs, ht⟩ => ⟨ys.map Subtype.val, ?_, ?_, ?_⟩
  · rw [← e1]; exact hp.map _
  · rw [List.map_map, List.pairwise_map]; exact hs
  · rw [e2] at ht
    have e3 : encL cREnt ((ys.map Subtype.val).map Prod.fst) = encL (fun p : VE R w => cREnt p.1.1) ys := by
      unfold encL; rw [List.map_map, List.flatMap_map]; rfl
    rw [e3]; exact ht
theorem sorted_r (w : World) (a : Option Addr) (n c : Nat) (rs : List REnt) (es : List Ent) (h : Sl dREnt All w a n c rs) (hm : MeanV mEnt All w rs es) (hn : n ≤ 1048576) :
    Ret Try.prog 108 #[.slice a n c, .func (.func 109) #[] #[]] w fun v w' => ∃ zs : List (REnt × Ent), zs.Perm (rs.zip es) ∧ (zs.map Prod.snd).Pairwise (fun x y => 0 ≤ cmpL y.2.1 x.2.1) ∧ ∃ a' c', v = .slice a' n c' ∧ Fresh w w' [Row a' n c' 39 3 (encL cREnt (zs.map Prod.fst))] := by
  refine Ret_of (l := [_, _]) Try.func108 rfl Try.ntmps108 (by simp) ?_
  have hs := St.init w
  obtain ⟨hsrc, hpl, _⟩ := h.srcF
  have hl := h.len
  have hlE : (encL cREnt rs).length = n * 3 := by rw [← hl]; exact encL_len (d := dREnt) rs
  repeat' (first
    | ((apply al_none (t := 8); refine JL_o (by apply as_makeSlice; exact OpR_make hs rfl rfl (by omega) (by omega)) rfl rfl ?_; rintro _ _ ⟨b8, rfl, hb8, hs, hE⟩; have hs := hs.toRow 0 n n 3 (Nat.le_refl _) (by unfold maxLen; omega) (by simp [madeCells]) rfl))
    | ((apply al_none (t := 11); refine JL_o (by apply as_b_copy; exact OpR_copyN (sz := 3) (off := 0) (vs := encL cREnt rs) (a := some ⟨b8, 0, none⟩) (n := n) (c := n) (by omega) hs rfl rfl (fun _ => rfl) (by omega) (by rw [Nat.min_self]; exact Src.st hsrc hs) (by rw [Nat.min_self]; exact hpl)) rfl rfl ?_; rintro _ _ ⟨rfl, hs, hF⟩; rw [splice_all (by rw [hlE]; simp [madeCells])] at hs))
    | ((apply al_none (t := 14); refine JL_o (OpR_callF en145 rfl (sortEnt_r _ (some ⟨b8, 0, none⟩) n n 39 rs es (fun k => k < w.heap.size) (St.held (A := [_]) hs) (meanOld hm |>.loc (fun k hk _ => hs.frm.old k hk id)) (fun k hk hf => by have := ((hs.foot _ List.mem_cons_self k (row_foot hf)).2).resolve_left id; omega) (by omega))) rfl rfl ?_; rintro _ _ ⟨zs, hz1, hz2, ht⟩; have hs : St _ _ _ [_] := St.take (A := [_]) (A' := [_]) (L := []) hs ht; clear ht))
    | (apply JL_nil)
    | ((apply JL_pure); (first
      | (apply as_move; exact OpR_move rfl is_rfl)
      | (apply as_assign; exact OpR_assign rfl is_rfl)
      | (apply as_b_len; exact OpR_len rfl is_rfl)); first | (exact rfl; exact rfl) | exact rfl)
    | (apply J_seq)
    | (apply J_region))
  refine J_leave Try.func108 rfl (.tmp rfl .nil) ⟨zs, hz1, hz2, _, _, rfl, hs.out (List.Sublist.refl _)⟩
theorem perm_snd {rs : List REnt} {es : List Ent} {zs : List (REnt × Ent)} (hz : zs.Perm (rs.zip es)) (hl : rs.length = es.length) : (zs.map Prod.snd).Perm es := by
  have := hz.map Prod.snd
  rwa [List.map_snd_zip (by rw [hl]; exact Nat.le_refl _)] at this
end Go.Eng
/- Lookups: DeleteFunc over entries. -/
namespace Go.Eng
open Go.Proofs
set_option linter.unusedSimpArgs false
set_option linter.unusedVariables false
abbrev stood (r : REnt) : Bool := decide (r.1 = 1)
abbrev okE (p : REnt) : Prop := inK .i64 p.1 ∧ True ∧ inK .i64 p.2.2
theorem addr0 (a : Option Addr) : a.map (·.add 0) = a := by
  cases a with
  | none => rfl
  | some a => cases a; rfl
theorem filter_take_succ {rs : List REnt} {j : Nat} {r : REnt} (h : rs[j]? = some r) : (rs.take (j + 1)).filter stood = (rs.take j).filter stood ++ if r.1 = 1 then [r] else [] := by
  rw [List.take_add_one, h, List.filter_append]
  congr 1
  by_cases h1 : r.1 = 1
  · simp [stood, h1]
  · simp [stood, h1]
attribute [local irreducible] Hold J JL JD JX JXat OpR OpG Ret RetV Is Blk Row MapC
set_option maxRecDepth 100000
set_option maxHeartbeats 1000000
theorem idxF_r (w : World) (a : Option Addr) (n c : Nat) (rs : List REnt) (h : Sl dREnt All w a n c rs) (hn : n ≤ 1048576) :
    Ret Try.prog 147 #[.slice a n c, .func (.func 112) #[] #[]] w fun v w' => ((v = .int .i64 (-1) ∧ rs.filter stood = rs) ∨ ∃ (k : Nat) (r : REnt), v = .int .i64 (k : Nat) ∧ rs[k]? = some r ∧ ¬ r.1 = 1 ∧ (rs.take k).filter stood = rs.take k) ∧ Ext w w' := by
  refine Ret_of (l := [_, _]) Try.func147 rfl Try.ntmps147 (by simp) ?_
  have hs := St.init w
  have hl := h.len
  repeat' (first
    | (apply JL_nil)
    | ((apply JL_pure); (first
      | (apply as_move; exact OpR_move rfl is_rfl)
      | (apply as_assign; exact OpR_assign rfl is_rfl)
      | (apply as_b_len; exact OpR_len rfl is_rfl)); first | (exact rfl; exact rfl) | exact rfl)
    | (apply J_seq)
    | (apply J_region)
    | (apply J_block))
  refine J_loopK (α := Nat) [(0, _), (1, _), (7, _)] (fun k => [(8, .int .i64 k)]) (fun k w' => St w NoF w' [] ∧ k ≤ n ∧ (rs.take k).filter stood = rs.take k) (fun k => n - k) 0 ⟨hs, by omega, rfl⟩ (by repeat' (first | exact trivial | exact rfl | apply And.intro)) ?_
  rintro k w' ⟨hs1, hk, hf⟩ ih
  have hs : St w NoF w' [] := hs1
  by_cases hlt : k < n
  · obtain ⟨p1, o1, rfl⟩ := h.sl.addr (by omega)
    have hx : rs[k]? = some rs[k] := List.getElem?_eq_getElem (by omega)
    obtain ⟨r, hrd⟩ : ∃ r, r = rs[k] := ⟨_, rfl⟩
    rw [← hrd] at hx
    by_cases hr : r.1 = 1
    · have hf2 : (rs.take (k + 1)).filter stood = rs.take (k + 1) := by rw [filter_take_succ hx, if_pos hr, hf, List.take_add_one, hx]; rfl
      repeat' (first
        | ((apply al_none; refine JL_o (OpR_callV rfl rfl (Ret.value (cap := #[]) en112 (used2_r _ r))) rfl rfl ?_; rintro _ _ ⟨rfl, hE⟩; have hs := hs.ext hE; rw [decide_eq_false (not_not_intro hr)]))
        | (apply JL_nil)
        | ((apply JL_pure); (first
      | (apply as_load; exact OpR_load_el (h.st hs) hx rfl rfl is_rfl)
      | (apply as_move; exact OpR_move rfl is_rfl)
      | (apply as_assign; exact OpR_assign rfl is_rfl)
      | (apply as_add; exact OpR_addn rfl rfl (by omega) (by first | (simp only [Int.reduceAdd]; exact rfl) | exact rfl) is_rfl)
      | (apply as_binOp; exact OpR_ibin rfl rfl rfl is_rfl)
      | (apply as_indexAddr; exact OpR_indexAddr rfl rfl (by omega) (by omega) is_rfl)); first | (exact rfl; exact rfl) | exact rfl)
        | (apply J_seq)
        | (apply J_region)
        | (apply J_block)
        | (apply J_inBlock)
        | (apply J_skip)
        | (apply aj_cond; first | refine J_dec_t rfl ob ?_ | refine J_cond_f rfl gb ?_))
      refine ih (k + 1) _ _ ⟨hs, by omega, hf2⟩ (by omega) (by repeat' (first | exact trivial | exact rfl | apply And.intro))
    · repeat' (first
        | ((apply al_none; refine JL_o (OpR_callV rfl rfl (Ret.value (cap := #[]) en112 (used2_r _ r))) rfl rfl ?_; rintro _ _ ⟨rfl, hE⟩; have hs := hs.ext hE; rw [decide_eq_true hr]))
        | (apply JL_nil)
        | ((apply JL_pure); (first
      | (apply as_load; exact OpR_load_el (h.st hs) hx rfl rfl is_rfl)
      | (apply as_move; exact OpR_move rfl is_rfl)
      | (apply as_assign; exact OpR_assign rfl is_rfl)
      | (apply as_binOp; exact OpR_ibin rfl rfl rfl is_rfl)
      | (apply as_indexAddr; exact OpR_indexAddr rfl rfl (by omega) (by omega) is_rfl)); first | (exact rfl; exact rfl) | exact rfl)
        | (apply J_seq)
        | (apply J_region)
        | (apply J_block)
        | (apply J_skip)
        | (apply aj_cond; first | refine J_dec_t rfl ob ?_ | refine J_cond_t rfl gb ?_))
      refine J_leave Try.func147 rfl (.tmp rfl .nil) ⟨.inr ⟨k, r, rfl, hx, hr, hf⟩, hs.frm.ext⟩
  · have e : rs.take k = rs := List.take_of_length_le (by omega)
    rw [e] at hf
    repeat' (first
      | (apply JL_nil)
      | ((apply JL_pure); (first
      | (apply as_assign; exact OpR_assign rfl is_rfl)
      | (apply as_binOp; exact OpR_ibin rfl rfl rfl is_rfl)); first | (exact rfl; exact rfl) | exact rfl)
      | (apply J_seq)
      | (apply J_region)
      | (apply aj_exit; refine J_exit rfl ?_)
      | (apply aj_cond; refine J_dec_f rfl ob ?_))
    refine J_leave Try.func147 rfl (.tmp rfl .nil) ⟨.inl ⟨rfl, hf⟩, hs.frm.ext⟩
theorem delF_r (w : World) (a : Option Addr) (n c : Nat) (rs : List REnt) (hh : Held w [Row a n c 39 3 (encL cREnt rs)]) (hok : ∀ r ∈ rs, okE r) (hn : n ≤ 1048576) :
    Ret Try.prog 111 #[.slice a n c, .func (.func 112) #[] #[]] w fun v w' => v = .slice a (rs.filter stood).length c ∧ Turn w [Row a n c 39 3 (encL cREnt rs)] w' [Row a (rs.filter stood).length c 39 3 (encL cREnt (rs.filter stood))] := by
  refine Ret_of (l := [_, _]) Try.func111 rfl Try.ntmps111 (by simp) ?_
  have hs := hh.st
  have hrow := hs.row a n c
  have hlE := hrow.len
  have hlen : rs.length = n := by
    have := encL_len (d := dREnt) rs
    rw [hlE] at this
    exact (Nat.eq_of_mul_eq_mul_right (by decide) this).symm
  have hsl : Sl dREnt All w a n c rs := (RowV.slF (d := dREnt) hrow (by decide) hok).weak (fun _ _ => trivial)
  have hcap := hrow.2.1
  repeat' (first
    | ((apply al_none (t := 10); refine JL_o (OpR_callF en147 rfl (idxF_r _ a n c rs hsl hn)) rfl rfl ?_; rintro _ _ ⟨⟨rfl, hf⟩ | ⟨k, r, rfl, hx, hr, hf⟩, hE⟩ <;> have hs := hs.ext hE <;> (try (have hkn : k < n := by rw [← hlen]; exact (List.getElem?_eq_some_iff.1 hx).1))))
    | (apply JL_nil)
    | ((apply JL_pure); (first
      | (apply as_move; exact OpR_move rfl is_rfl)
      | (apply as_assign; exact OpR_assign rfl is_rfl)
      | (apply as_add; exact OpR_addn rfl rfl (by omega) (by first | (simp only [Int.reduceAdd]; exact rfl) | exact rfl) is_rfl)
      | (apply as_binOp; exact OpR_ibin rfl rfl rfl is_rfl)); first | (exact rfl; exact rfl) | exact rfl)
    | (apply J_seq)
    | (apply J_region)
    | (apply J_block)
    | (apply J_skip)
    | (apply aj_cond; first | refine J_dec_t rfl ob ?_ | refine J_dec_f rfl ob ?_))
  · rw [hf, hlen]
    refine J_leave Try.func111 rfl (.tmp rfl .nil) ⟨rfl, St.turned (M := []) hs⟩
  have hf1 : (rs.take (k + 1)).filter stood = rs.take k := by rw [filter_take_succ hx, if_neg hr, hf, List.append_nil]
  have hs0 : St w (Star [Row a n c 39 3 (encL cREnt rs)]).foot _ [Row a n c 39 3 (encL cREnt rs)] := hs
  refine J_loopK (α := Nat × Nat × List REnt) [(0, _), (1, _)] (fun g => [(5, .int .i64 g.1), (6, .int .i64 g.2.1)]) (fun g w' => St w (Star [Row a n c 39 3 (encL cREnt rs)]).foot w' [Row a n c 39 3 (encL cREnt g.2.2)] ∧ (g.1 < g.2.1 ∧ g.2.1 ≤ n) ∧ g.2.2.length = n ∧ g.2.2.take g.1 = (rs.take g.2.1).filter stood ∧ g.2.2.drop g.2.1 = rs.drop g.2.1) (fun g => n - g.2.1) (k, k + 1, rs) ⟨hs0, ⟨by dsimp only; omega, by dsimp only; omega⟩, hlen, hf1.symm, rfl⟩ (by repeat' (first | exact trivial | exact rfl | apply And.intro)) ?_
  rintro ⟨i, j, cur⟩ w2 ⟨hs1, ⟨hij, hj⟩, hcl, ht, hd⟩ ih
  dsimp only at hs1 hij hj hcl ht hd ih ⊢
  obtain ⟨b, o, rfl⟩ := (hs1.row a n c).some (by omega)
  have hs : St w (Star [Row (some ⟨b, o, none⟩) n c 39 3 (encL cREnt rs)]).foot w2 [Row (some ⟨b, o, none⟩) n c 39 3 (encL cREnt cur)] := hs1
  by_cases hlt : j < n
  · have hx2 : rs[j]? = some rs[j] := List.getElem?_eq_getElem (by omega)
    obtain ⟨r2, hrd⟩ : ∃ r, r = rs[j] := ⟨_, rfl⟩
    rw [← hrd] at hx2
    have hc2 : cur[j]? = some r2 := by
      have : (cur.drop j)[0]? = (rs.drop j)[0]? := by rw [hd]
      rw [List.getElem?_drop, List.getElem?_drop, Nat.add_zero] at this
      rw [this]; exact hx2
    have hld : ∀ (q : Nat) (u : Value), (cREnt r2)[q]? = some u → (encL cREnt cur)[j * 3 + q]? = some u := fun q u hq => by
      have hq3 : q < 3 := (List.getElem?_eq_some_iff.1 hq).1
      rw [show (encL cREnt cur)[j * 3 + q]? = (cREnt r2)[q]? from encL_get (d := dREnt) cur j q r2 hc2 hq3]; exact hq
    have hdj : cur.drop (j + 1) = rs.drop (j + 1) := by
      have : (cur.drop j).drop 1 = (rs.drop j).drop 1 := by rw [hd]
      rwa [List.drop_drop, List.drop_drop] at this
    by_cases hr2 : r2.1 = 1
    · have hft := filter_take_succ hx2
      rw [if_pos hr2, ← ht] at hft
      have hset : encL cREnt (cur.set i r2) = splice (encL cREnt cur) (i * 3) (cREnt r2) := encL_set (d := dREnt) cur i r2 (by omega)
      repeat' (first
        | ((apply al_none (t := 28); refine JL_o (OpR_callV rfl rfl (Ret.value (cap := #[]) en112 (used2_r _ r2))) rfl rfl ?_; rintro _ _ ⟨rfl, hE⟩; have hs := hs.ext hE; rw [decide_eq_false (not_not_intro hr2)]))
        | ((apply al_unit; refine JL_u (by apply as_store; exact OpR_storeN (b := b) (o := o) (off := i * 3) (n := n) (c := c) (vs := cREnt r2) hs rfl rfl rfl rfl (fun u hu => by simp only [List.mem_cons, List.not_mem_nil, or_false] at hu; rcases hu with rfl | rfl | rfl <;> rfl) (by show i * 3 + 3 ≤ n * 3; omega)) rfl ?_; rintro _ _ ⟨hs, hF⟩; rw [← hset] at hs))
        | (apply JL_nil)
        | ((apply JL_pure); (first
      | (apply as_load; first | exact OpR_load_agg' hs rfl is_rfl | exact OpR_loadN (off := j * 3) (n := n) (c := c) hs rfl rfl hld is_rfl)
      | (apply as_move; exact OpR_move rfl is_rfl)
      | (apply as_assign; exact OpR_assign rfl is_rfl)
      | (apply as_add; exact OpR_addn rfl rfl (by omega) (by first | (simp only [Int.reduceAdd]; exact rfl) | exact rfl) is_rfl)
      | (apply as_binOp; exact OpR_ibin rfl rfl rfl is_rfl)
      | (apply as_unOp; exact OpR_not rfl is_rfl)
      | (apply as_b_len; exact OpR_len rfl is_rfl)
      | (apply as_indexAddr; exact OpR_indexAddr rfl rfl (by omega) (by omega) is_rfl)); first | (exact rfl; exact rfl) | exact rfl)
        | (apply J_seq)
        | (apply J_region)
        | (apply J_block)
        | (apply J_inBlock)
        | (apply J_skip)
        | (apply al_none (t := 7); refine JL_o (by apply as_alloc; exact OpR_alloc' hs) rfl rfl ?_; rintro _ _ ⟨b7, rfl, hb7, hs, hE⟩)
        | (apply al_unit; refine JL_u (by apply as_store; exact OpR_store' hs rfl rfl rfl) rfl ?_; rintro _ _ ⟨hs, hF⟩)
        | (apply aj_cond; first | refine J_dec_t rfl ob ?_ | refine J_cond_t rfl gb ?_))
      refine ih (i + 1, j + 1, cur.set i r2) _ _ ⟨hs.sel [1] (by decide), ⟨by dsimp only; omega, by dsimp only; omega⟩, by dsimp only; rw [List.length_set]; exact hcl, ?_, ?_⟩ (by dsimp only; omega) (by repeat' (first | exact trivial | exact rfl | apply And.intro))
      · dsimp only
        rw [hft, List.take_add_one, List.getElem?_set_self (by omega), List.take_set_of_le (Nat.le_refl _)]; rfl
      · dsimp only
        rw [List.drop_set_of_lt (by omega)]; exact hdj
    · have hft := filter_take_succ hx2
      rw [if_neg hr2, ← ht, List.append_nil] at hft
      repeat' (first
        | ((apply al_none (t := 28); refine JL_o (OpR_callV rfl rfl (Ret.value (cap := #[]) en112 (used2_r _ r2))) rfl rfl ?_; rintro _ _ ⟨rfl, hE⟩; have hs := hs.ext hE; rw [decide_eq_true hr2]))
        | (apply JL_nil)
        | ((apply JL_pure); (first
      | (apply as_load; first | exact OpR_load_agg' hs rfl is_rfl | exact OpR_loadN (off := j * 3) (n := n) (c := c) hs rfl rfl hld is_rfl)
      | (apply as_move; exact OpR_move rfl is_rfl)
      | (apply as_assign; exact OpR_assign rfl is_rfl)
      | (apply as_add; exact OpR_addn rfl rfl (by omega) (by first | (simp only [Int.reduceAdd]; exact rfl) | exact rfl) is_rfl)
      | (apply as_binOp; exact OpR_ibin rfl rfl rfl is_rfl)
      | (apply as_unOp; exact OpR_not rfl is_rfl)
      | (apply as_b_len; exact OpR_len rfl is_rfl)
      | (apply as_indexAddr; exact OpR_indexAddr rfl rfl (by omega) (by omega) is_rfl)); first | (exact rfl; exact rfl) | exact rfl)
        | (apply J_seq)
        | (apply J_region)
        | (apply J_block)
        | (apply J_inBlock)
        | (apply J_skip)
        | (apply al_none (t := 7); refine JL_o (by apply as_alloc; exact OpR_alloc' hs) rfl rfl ?_; rintro _ _ ⟨b7, rfl, hb7, hs, hE⟩)
        | (apply al_unit; refine JL_u (by apply as_store; exact OpR_store' hs rfl rfl rfl) rfl ?_; rintro _ _ ⟨hs, hF⟩)
        | (apply aj_cond; first | refine J_dec_t rfl ob ?_ | refine J_cond_f rfl gb ?_))
      refine ih (i, j + 1, cur) _ _ ⟨hs.sel [1] (by decide), ⟨by dsimp only; omega, by dsimp only; omega⟩, hcl, hft.symm, hdj⟩ (by dsimp only; omega) (by repeat' (first | exact trivial | exact rfl | apply And.intro))
  · have hjn : j = n := by omega
    subst hjn
    have htk : rs.take j = rs := List.take_of_length_le (by omega)
    rw [htk] at ht
    have hfl : (rs.filter stood).length = i := by rw [← ht, List.length_take]; omega
    have hcell : ∀ zs, (splice (encL cREnt cur) (i * 3) zs).take (i * 3) = encL cREnt (rs.filter stood) := fun zs => by
      have := encL_len (d := dREnt) cur
      rw [splice_take _ _ _ (by rw [this]; show i * 3 ≤ cur.length * 3; omega), ← ht]; exact (encL_take (d := dREnt) cur i).symm
    rw [hfl]
    repeat' (first
      | ((apply al_none (t := 38); refine JL_pure (v := .slice (some ⟨b, o + i * 3, none⟩) (j - i) (c - i)) (by apply as_slice; exact OpR_slice (kl := .i64) (kh := .i64) (km := .i64) (a' := some ⟨b, o + i * 3, none⟩) (l := (i : Nat)) (m := c) (h := (j : Nat)) rfl (.inr ⟨_, rfl, rfl⟩) (.inl ⟨rfl, rfl, rfl⟩) (.inl ⟨rfl, rfl⟩) (by omega) (by omega) (by omega) (by omega) (by rw [if_neg (by omega)]; simp [Addr.add]) (by rw [show ((j : Int) - (i : Int)).toNat = j - i by omega, show ((c : Int) - (i : Int)).toNat = c - i by omega]; exact is_rfl)) rfl rfl ?_))
      | ((apply al_unit; refine JL_u (by apply as_b_clear; exact OpR_clear (a := some ⟨b, o, none⟩) (off := i) (n := j) (c := c) (sz := 3) hs rfl rfl (by decide) (fun _ => by simp [Addr.add]) (by omega)) rfl ?_; rintro _ _ ⟨rfl, ⟨zs, hzl, hs⟩, hF⟩))
      | ((apply al_none (t := 41); refine JL_pure (v := .slice (some ⟨b, o, none⟩) i c) (by apply as_slice; exact OpR_slice (kl := .i64) (kh := .i64) (km := .i64) (a' := some ⟨b, o, none⟩) (m := c) (h := (i : Nat)) rfl (.inl ⟨rfl, rfl⟩) (.inr ⟨_, rfl, rfl⟩) (.inl ⟨rfl, rfl⟩) (by omega) (by omega) (by omega) (by omega) (by split; rfl; exact addr0 _) (by rw [Int.sub_zero, Int.sub_zero, Int.toNat_natCast, Int.toNat_natCast]; exact is_rfl)) rfl rfl ?_))
      | (apply JL_nil)
      | ((apply JL_pure); (first
      | (apply as_move; exact OpR_move rfl is_rfl)
      | (apply as_assign; exact OpR_assign rfl is_rfl)
      | (apply as_binOp; exact OpR_ibin rfl rfl rfl is_rfl)
      | (apply as_b_len; exact OpR_len rfl is_rfl)); first | (exact rfl; exact rfl) | exact rfl)
      | (apply J_seq)
      | (apply J_region)
      | (apply aj_exit; refine J_exit rfl ?_)
      | (apply aj_cond; refine J_dec_f rfl ob ?_))
    have hs := hs.cutRow i c (by omega) (by omega) (Nat.le_refl _)
    rw [hcell] at hs
    refine J_leave Try.func111 rfl (.tmp rfl .nil) ⟨rfl, St.turned (M := []) hs⟩
end Go.Eng
/- Lookups: entries of one's own; those in use. -/
namespace Go.Eng
open Go.Proofs
set_option linter.unusedSimpArgs false
set_option linter.unusedVariables false
abbrev u64s' (xs : List Int) : List Value := xs.map (.int .u64)
theorem encL_u64 (xs : List Int) : encL (fun x => [Value.int .u64 x]) xs = u64s' xs := by
  unfold encL; induction xs with
  | nil => rfl
  | cons x xs ih => rw [List.flatMap_cons, ih]; rfl
/-- A row of entries whose types are rows of one's own. -/
def OwnV (w : World) (rs : List REnt) (es : List Ent) : Prop :=
  rs.length = es.length ∧ ∀ (i : Nat) (r : REnt) (x : Ent), rs[i]? = some r → es[i]? = some x →
    (r.1 = x.1 ∧ r.2.2 = x.2.2 ∧ r.2.1.2.1 = x.2.1.length ∧ inK .i64 x.1 ∧ inK .i64 x.2.2) ∧ RowV w r.2.1.1 x.2.1.length r.2.1.2.2 41 1 (u64s' x.2.1) ∧ ∀ v ∈ x.2.1, inK .u64 v
def ownF (rs : List REnt) : Nat → Prop := fun k => ∃ r ∈ rs, afoot r.2.1.1 k
def Own (rs : List REnt) (es : List Ent) : HP := ⟨ownF rs, fun w => OwnV w rs es, fun _ _ h hw => ⟨hw.1, fun i r x hr hx => by
  obtain ⟨h1, h2, h3⟩ := hw.2 i r x hr hx
  exact ⟨h1, h2.loc (fun k hk => h k ⟨r, List.mem_of_getElem? hr, hk⟩), h3⟩⟩⟩
theorem St.nilOwn {w0 w : World} {F : Nat → Prop} {L : List HP} (h : St w0 F w L) : St w0 F w (Own [] [] :: L) :=
  ⟨h.frm, fun d hd => by
      rcases List.mem_cons.1 hd with rfl | hd
      · exact ⟨rfl, fun i r x hr => by simp at hr⟩
      · exact h.all d hd,
    fun d hd k hk => by
      rcases List.mem_cons.1 hd with rfl | hd
      · obtain ⟨r, hr, _⟩ := hk; cases hr
      · exact h.foot d hd k hk,
    List.pairwise_cons.2 ⟨fun d _ k hk => (by obtain ⟨r, hr, _⟩ := hk; cases hr), h.sep⟩⟩
theorem St.pushOwn {w0 w : World} {F : Nat → Prop} {L : List HP} {rs : List REnt} {es : List Ent} {a : Option Addr} {n c : Nat} {t : List Int} (h : St w0 F w (Row a n c 41 1 (u64s' t) :: Own rs es :: L)) (hn : n = t.length) (s v : Int) (hs : inK .i64 s) (hv : inK .i64 v) (ht : ∀ u ∈ t, inK .u64 u) :
    St w0 F w (Own (rs ++ [(s, (a, n, c), v)]) (es ++ [(s, t, v)]) :: L) := by
  refine h.conv2 (fun k hk => ?_) (fun h1 h2 => ?_)
  · obtain ⟨r, hr, hk⟩ := hk
    rcases List.mem_append.1 hr with hr | hr
    · exact .inr ⟨r, hr, hk⟩
    · rw [List.mem_singleton.1 hr] at hk; exact .inl hk
  · have h1 : RowV w a n c 41 1 (u64s' t) := h1
    have h2 : OwnV w rs es := h2
    subst hn
    refine ⟨by simp [h2.1], fun i r x hr hx => ?_⟩
    by_cases hi : i < rs.length
    · rw [List.getElem?_append_left hi] at hr
      rw [List.getElem?_append_left (by rw [← h2.1]; exact hi)] at hx
      exact h2.2 i r x hr hx
    · rw [List.getElem?_append_right (by omega)] at hr
      rw [List.getElem?_append_right (by have := h2.1; omega), ← h2.1] at hx
      cases hq : i - rs.length with
      | zero => rw [hq] at hr hx; cases hr; cases hx; exact ⟨⟨rfl, rfl, rfl, hs, hv⟩, h1, ht⟩
      | succ j => rw [hq] at hr; simp at hr
theorem OwnV.mean {w : World} {rs : List REnt} {es : List Ent} (h : OwnV w rs es) : MeanV mEnt (ownF rs) w rs es := ⟨h.1, fun i r x hr hx => by
  obtain ⟨⟨h1, h2, h3, _, _⟩, h4, h5⟩ := h.2 i r x hr hx
  refine ⟨h1, ?_, h2⟩
  show Sl (tInt .u64) _ w r.2.1.1 r.2.1.2.1 r.2.1.2.2 x.2.1
  rw [h3]
  exact (RowV.sl h4 h5).weak (fun k hk => ⟨r, List.mem_of_getElem? hr, hk⟩)⟩
theorem OwnV.ok {w : World} {rs : List REnt} {es : List Ent} (h : OwnV w rs es) : ∀ r ∈ rs, okE r := fun r hr => by
  obtain ⟨i, hi⟩ := List.mem_iff_getElem?.1 hr
  have hl := h.1
  have hlt := (List.getElem?_eq_some_iff.1 hi).1
  obtain ⟨⟨h1, h2, h3, h4, h5⟩, _⟩ := h.2 i r _ hi (List.getElem?_eq_getElem (by omega))
  exact ⟨by rw [h1]; exact h4, trivial, by rw [h2]; exact h5⟩
/-- Such entries, as they are read. -/
theorem OwnV.sl {w : World} {a : Option Addr} {n c : Nat} {rs : List REnt} {es : List Ent} (hr : RowV w a n c 39 3 (encL cREnt rs)) (ho : OwnV w rs es) : Sl dEnt (fun k => afoot a k ∨ ownF rs k) w a n c es :=
  Sl.unraw (D := rawEnt) ((RowV.slF (d := dREnt) hr (by decide) ho.ok).weak (fun k hk => .inl hk)) (ho.mean.weak (fun k hk => .inr hk))
theorem St.frzEnt {w0 w : World} {F : Nat → Prop} {L : List HP} {a : Option Addr} {n c : Nat} {rs : List REnt} {es : List Ent} (h : St w0 F w (Row a n c 39 3 (encL cREnt rs) :: Own rs es :: L)) : St w0 F w (Frz (fun k => afoot a k ∨ ownF rs k) dEnt a n c es :: L) :=
  h.conv2 (fun _ hk => hk) (fun h1 h2 => OwnV.sl h1 h2)
/-- The type of entry k, put in. -/
theorem encL_setT (rs : List REnt) (k : Nat) (r : REnt) (q : RS) (hr : rs[k]? = some r) : splice (encL cREnt rs) (k * 3 + 1) [.slice q.1 q.2.1 q.2.2] = encL cREnt (rs.set k (r.1, q, r.2.2)) := by
  have hk := (List.getElem?_eq_some_iff.1 hr).1
  have hle := encL_len (d := dREnt) rs
  have h1 : encL cREnt (rs.set k (r.1, q, r.2.2)) = splice (encL cREnt rs) (k * 3) (cREnt (r.1, q, r.2.2)) := encL_set (d := dREnt) rs k _ hk
  rw [h1]
  have hg : ∀ j, j < 3 → (encL cREnt rs)[k * 3 + j]? = (cREnt r)[j]? := fun j hj => encL_get (d := dREnt) rs k j r hr hj
  have hle : (encL cREnt rs).length = rs.length * 3 := hle
  apply List.ext_getElem?
  intro i
  unfold splice
  have e1 : ((encL cREnt rs).take (k * 3 + 1)).length = k * 3 + 1 := by rw [List.length_take]; omega
  have e2 : ((encL cREnt rs).take (k * 3)).length = k * 3 := by rw [List.length_take]; omega
  simp only [List.length_cons, List.length_nil]
  by_cases c1 : i < k * 3
  · rw [List.append_assoc, List.append_assoc, List.getElem?_append_left (by omega), List.getElem?_append_left (by omega), List.getElem?_take, List.getElem?_take, if_pos (by omega), if_pos (by omega)]
  · by_cases c2 : i < k * 3 + 3
    · obtain ⟨j, rfl⟩ : ∃ j, i = k * 3 + j := ⟨i - k * 3, by omega⟩
      have hj : j = 0 ∨ j = 1 ∨ j = 2 := by omega
      rw [List.append_assoc, List.append_assoc]
      rw [List.getElem?_append_right (l₁ := (encL cREnt rs).take (k * 3)) (by omega), e2, Nat.add_sub_cancel_left]
      rcases hj with rfl | rfl | rfl
      · rw [List.getElem?_append_left (by omega), List.getElem?_take, if_pos (by omega), hg 0 (by omega)]; rfl
      · rw [List.getElem?_append_right (by omega), e1, Nat.sub_self]; rfl
      · rw [List.getElem?_append_right (by omega), e1, show k * 3 + 2 - (k * 3 + 1) = 1 by omega]
        rw [List.getElem?_append_right (by simp), List.getElem?_drop]
        rw [show k * 3 + 1 + (0 + 1) + (1 - [Value.slice q.1 q.2.1 q.2.2].length) = k * 3 + 2 by simp, hg 2 (by omega)]; rfl
    · rw [List.getElem?_append_right (by simp; omega), List.getElem?_append_right (by simp; omega), List.getElem?_drop, List.getElem?_drop]
      congr 1
      simp; omega
theorem sl_entOk {R : Nat → Prop} {w : World} {a : Option Addr} {n c : Nat} {es : List Ent} (h : Sl dEnt R w a n c es) : ∀ x ∈ es, inK .i64 x.1 ∧ inK .i64 x.2.2 ∧ ∀ v ∈ x.2.1, inK .u64 v := fun x hx => by
  obtain ⟨rs, hr, hm⟩ := Sl.raw (D := rawEnt) h
  obtain ⟨i, hi⟩ := List.mem_iff_getElem?.1 hx
  obtain ⟨r, hr1, e1, e2, e3⟩ := hm.get hi
  obtain ⟨_, _, hok⟩ := hr.srcF
  obtain ⟨o1, _, o3⟩ := hok r (List.mem_of_getElem? hr1)
  obtain ⟨_, _, hov⟩ := Sl.srcF (d := tInt .u64) e2
  have e1 : r.1 = x.1 := e1
  have e3 : r.2.2 = x.2.2 := e3
  rw [e1] at o1; rw [e3] at o3
  exact ⟨o1, o3, hov⟩
theorem mean_ok {R : Nat → Prop} {w : World} {rs : List REnt} {es : List Ent} (hm : MeanV mEnt R w rs es) (h : ∀ x ∈ es, inK .i64 x.1 ∧ inK .i64 x.2.2 ∧ ∀ v ∈ x.2.1, inK .u64 v) : ∀ r ∈ rs, okE r := fun r hr => by
  obtain ⟨i, hi⟩ := List.mem_iff_getElem?.1 hr
  have hl := hm.1
  have hlt := (List.getElem?_eq_some_iff.1 hi).1
  have hx : es[i]? = some (es[i]'(by omega)) := List.getElem?_eq_getElem (by omega)
  obtain ⟨e1, _, e3⟩ := hm.2 i r _ hi hx
  have e1 : r.1 = _ := e1
  have e3 : r.2.2 = _ := e3
  have := h _ (List.mem_of_getElem? hx)
  exact ⟨by rw [e1]; exact this.1, trivial, by rw [e3]; exact this.2.1⟩
abbrev stands (x : Ent) : Bool := decide (x.1 = 1)
theorem MeanV.tail {ρ α : Type} {m : Rel ρ α} {R : Nat → Prop} {w : World} {r : ρ} {x : α} {rs : List ρ} {xs : List α} (h : MeanV m R w (r :: rs) (x :: xs)) : MeanV m R w rs xs ∧ m.rel R w r x :=
  ⟨⟨by have := h.1; simpa using this, fun i r' x' hr hx => h.2 (i + 1) r' x' hr hx⟩, h.2 0 r x rfl rfl⟩
theorem MeanV.cons {ρ α : Type} {m : Rel ρ α} {R : Nat → Prop} {w : World} {r : ρ} {x : α} {rs : List ρ} {xs : List α} (h : MeanV m R w rs xs) (hx : m.rel R w r x) : MeanV m R w (r :: rs) (x :: xs) := MeanV.app (MeanV.one hx) h
theorem mean_filter {R : Nat → Prop} {w : World} : ∀ {rs : List REnt} {es : List Ent}, MeanV mEnt R w rs es → MeanV mEnt R w (rs.filter stood) (es.filter stands)
  | [], [], h => h
  | [], x :: es, h => by have := h.1; simp at this
  | r :: rs, [], h => by have := h.1; simp at this
  | r :: rs, x :: es, h => by
    obtain ⟨h1, h2⟩ := h.tail
    have ih := mean_filter h1
    have e : r.1 = x.1 := h2.1
    by_cases c : r.1 = 1
    · rw [List.filter_cons_of_pos (by simp [stood, c]), List.filter_cons_of_pos (by simp [stands, ← e, c])]
      exact ih.cons h2
    · rw [List.filter_cons_of_neg (by simp [stood, c]), List.filter_cons_of_neg (by simp [stands, ← e, c])]
      exact ih
theorem set_mid {α : Type} (rs1 rs : List α) (k : Nat) (q : α) (h : rs1.length = k) (hk : k < rs.length) : (rs1 ++ rs.drop k).set k q = (rs1 ++ [q]) ++ rs.drop (k + 1) := by
  rw [List.set_append_right _ _ (by omega), h, Nat.sub_self, List.append_assoc]
  congr 1
  rw [List.drop_eq_getElem_cons hk, List.set_cons_zero]; rfl
attribute [local irreducible] Hold J JL JD JX JXat OpR OpG Ret RetV Is Blk Row MapC
set_option maxRecDepth 100000
set_option maxHeartbeats 1000000
theorem cloneI_r (w : World) (a : Option Addr) (n c : Nat) (xs : List Int) (h : Sl (tInt .u64) All w a n c xs) (hn : n ≤ 4000000000) :
    Ret Try.prog 23 #[.slice a n c] w fun v w' => ∃ a' c', v = .slice a' n c' ∧ Fresh w w' [Row a' n c' 41 1 (u64s' xs)] := by
  obtain ⟨h1, h2, _⟩ := h.srcF
  rw [encL_u64] at h1
  exact cloneId_r w a n c _ h1 h2 hn
theorem used_r (w : World) (a : Option Addr) (n c : Nat) (es : List Ent) (h : Sl dEnt All w a n c es) (hn : n ≤ 1048576) (ht : ∀ x ∈ es, x.2.1.length ≤ 4000000000) :
    Ret Try.prog 58 #[.agg #[.slice a n c]] w fun v w' => ∃ es' rs', es'.Perm (es.filter (fun x => decide (x.1 = 1))) ∧ es'.Pairwise (fun x y => 0 ≤ cmpL y.2.1 x.2.1) ∧ ∃ a' c', v = .slice a' es'.length c' ∧ Fresh w w' [Row a' es'.length c' 39 3 (encL cREnt rs'), Own rs' es'] := by
  refine Ret_of (l := [_]) Try.func58 rfl Try.ntmps58 (by simp) ?_
  have hs := St.init w
  obtain ⟨rs, hr, hm⟩ := Sl.raw (D := rawEnt) h
  have hok := sl_entOk h
  have hle := h.len
  repeat' (first
    | ((apply al_call 108; refine JL_o (by exact OpR_callF en108 rfl (sorted_r _ a n c rs es (hr.st hs) (hm.st hs) hn)) rfl rfl ?_; rintro _ _ ⟨zs, hz, hpw, a1, c1, rfl, hf⟩; have hs := hs.fresh hf; obtain ⟨rs1, hrs1⟩ : ∃ rs1, rs1 = zs.map Prod.fst := ⟨_, rfl⟩; obtain ⟨es1, hes1⟩ : ∃ es1, es1 = zs.map Prod.snd := ⟨_, rfl⟩; have hp := perm_snd hz hm.1; have hm1 := hm.of_perm hz; rw [← hes1] at hp hpw hm1; rw [← hrs1] at hs hm1; have hok1 : ∀ x ∈ es1, inK .i64 x.1 ∧ inK .i64 x.2.2 ∧ ∀ v ∈ x.2.1, inK .u64 v := fun x hx => hok x (hp.mem_iff.1 hx); (try simp only [List.cons_append, List.nil_append] at hs)))
    | ((apply al_none (t := 9); refine JL_o (OpR_callF en111 rfl (delF_r _ a1 n c1 rs1 (St.held (A := [_]) hs) (mean_ok hm1 hok1) hn)) rfl rfl ?_; rintro _ _ ⟨rfl, ht1⟩; have hs := St.take (A := [_]) (A' := [_]) hs ht1))
    | (apply JL_nil)
    | ((apply JL_pure); (first
      | (apply as_move; exact OpR_move rfl is_rfl)
      | (apply as_assign; exact OpR_assign rfl is_rfl)
      | (apply as_fieldAddr; exact OpR_fieldAddr0 rfl rfl is_rfl)
      | (apply as_load; exact OpR_load' hs rfl rfl is_rfl)
      | (apply as_b_len; exact OpR_len rfl is_rfl)); first | (exact rfl; exact rfl) | exact rfl)
    | (apply J_seq)
    | (apply J_region)
    | (apply J_block)
    | (apply al_none (t := 1); refine JL_o (by apply as_box; exact OpR_box' hs rfl) rfl rfl ?_; rintro _ _ ⟨b1, rfl, hb1, hs, hE⟩))
  have hm2 := mean_filter hm1
  obtain ⟨rs2, hrs2⟩ : ∃ rs2, rs2 = rs1.filter stood := ⟨_, rfl⟩
  obtain ⟨es2, hes2⟩ : ∃ es2, es2 = es1.filter stands := ⟨_, rfl⟩
  rw [← hrs2] at hs hm2
  rw [← hes2] at hm2
  have hl2 := hm2.1
  have hok2 : ∀ x ∈ es2, (inK .i64 x.1 ∧ inK .i64 x.2.2 ∧ ∀ v ∈ x.2.1, inK .u64 v) ∧ x.2.1.length ≤ 4000000000 := fun x hx => by
    have : x ∈ es1 := by rw [hes2] at hx; exact (List.mem_filter.1 hx).1
    exact ⟨hok1 x this, ht x (hp.mem_iff.1 this)⟩
  have hle2 : es2.length ≤ n := by
    rw [hes2]
    refine Nat.le_trans (List.length_filter_le _ _) ?_
    rw [hp.length_eq, hle]
    exact Nat.le_refl _
  have hP2 : es2.Perm (es.filter (fun x => decide (x.1 = 1))) := by rw [hes2]; exact hp.filter _
  have hpw2 : es2.Pairwise (fun x y => 0 ≤ cmpL y.2.1 x.2.1) := by rw [hes2]; exact hpw.sublist List.filter_sublist
  rw [← hrs2] 
  have hs := hs.nilOwn
  refine J_loopK (α := Nat × List REnt) [(3, _), (11, _)] (fun g => [(12, .int .i64 g.1)]) (fun g w' => St w NoF w' [Row a1 rs2.length c1 39 3 (encL cREnt (g.2 ++ rs2.drop g.1)), Own g.2 (es2.take g.1)] ∧ g.2.length = g.1 ∧ g.1 ≤ rs2.length) (fun g => rs2.length - g.1) (0, []) ⟨hs.sel [1, 0] (by decide), rfl, Nat.zero_le _⟩ (by repeat' (first | exact trivial | exact rfl | apply And.intro)) ?_
  rintro ⟨k, rs3⟩ w2 ⟨hs1, hk3, hk⟩ ih
  dsimp only at hs1 hk3 hk ih ⊢
  by_cases hlt : k < rs2.length
  · obtain ⟨b, o, rfl⟩ := (hs1.row a1 rs2.length c1).some (by omega)
    have hs : St w NoF w2 [Row (some ⟨b, o, none⟩) rs2.length c1 39 3 (encL cREnt (rs3 ++ rs2.drop k)), Own rs3 (es2.take k)] := hs1
    have hx : es2[k]? = some (es2[k]'(by omega)) := List.getElem?_eq_getElem (by omega)
    obtain ⟨x, hxd⟩ : ∃ x, x = es2[k]'(by omega) := ⟨_, rfl⟩
    rw [← hxd] at hx
    obtain ⟨r, hrx, hrel⟩ := hm2.get hx
    obtain ⟨⟨ok1, ok2, ok3⟩, ok4⟩ := hok2 x (List.mem_of_getElem? hx)
    have e1 : r.1 = x.1 := hrel.1
    have e3 : r.2.2 = x.2.2 := hrel.2.2
    have m2 : Sl (tInt .u64) All w r.2.1.1 r.2.1.2.1 r.2.1.2.2 x.2.1 := hrel.2.1
    have mlen := m2.len
    have hcur : (rs3 ++ rs2.drop k)[k]? = some r := by rw [List.getElem?_append_right (by omega), hk3, Nat.sub_self, List.getElem?_drop, Nat.add_zero]; exact hrx
    have hld : (encL cREnt (rs3 ++ rs2.drop k))[k * 3 + 1]? = some (.slice r.2.1.1 r.2.1.2.1 r.2.1.2.2) := encL_get (d := dREnt) (rs3 ++ rs2.drop k) k 1 r hcur (by decide)
    have htk : es2.take (k + 1) = es2.take k ++ [x] := by rw [List.take_add_one, hx]; rfl
    repeat' (first
      | ((apply al_call 23; refine JL_o (by exact OpR_callF en23 rfl (cloneI_r _ r.2.1.1 r.2.1.2.1 r.2.1.2.2 x.2.1 (m2.st hs) (by omega))) rfl rfl ?_; rintro _ _ ⟨a3, c3, rfl, hf3⟩; have hs := hs.fresh hf3; have hset := (encL_setT (rs3 ++ rs2.drop k) k r (a3, r.2.1.2.1, c3) hcur).trans (congrArg (encL cREnt) (set_mid rs3 rs2 k (r.1, (a3, r.2.1.2.1, c3), r.2.2) hk3 hlt)); (try simp only [List.cons_append, List.nil_append] at hs)))
      | ((apply al_unit; refine JL_u (by apply as_store; exact OpR_storeN (b := b) (o := o) (off := k * 3 + 1) (n := rs2.length) (c := c1) (vs := [.slice a3 r.2.1.2.1 c3]) hs rfl rfl rfl rfl (by simp [Value.oneCell']) (by show k * 3 + 1 + 1 ≤ rs2.length * 3; omega)) rfl ?_; rintro _ _ ⟨hs, hF⟩; rw [hset] at hs))
      | (apply JL_nil)
      | ((apply JL_pure); (first
      | (apply as_load; first | exact OpR_load1N (b := b) (o := o) (off := k * 3 + 1) (n := rs2.length) (c := c1) hs rfl hld is_rfl)
      | (apply as_move; exact OpR_move rfl is_rfl)
      | (apply as_assign; exact OpR_assign rfl is_rfl)
      | (apply as_fieldAddr; exact OpR_fieldAddr rfl rfl is_rfl)
      | (apply as_add; exact OpR_addn rfl rfl (by omega) (by first | (simp only [Int.reduceAdd]; exact rfl) | exact rfl) is_rfl)
      | (apply as_binOp; exact OpR_ibin rfl rfl rfl is_rfl)
      | (apply as_indexAddr; exact OpR_indexAddr rfl rfl (by omega) (by omega) is_rfl)); first | (exact rfl; exact rfl) | exact rfl)
      | (apply J_seq)
      | (apply J_region)
      | (apply J_block)
      | (apply J_inBlock)
      | (apply J_skip)
      | (apply aj_cond; refine J_dec_t rfl ob ?_))
    have hs : St w NoF _ [_, _, _] := hs.sel [0, 2, 1] (by decide)
    have hs := St.pushOwn hs mlen.symm r.1 r.2.2 (by rw [e1]; exact ok1) (by rw [e3]; exact ok2) ok3
    have hx3 : (r.1, x.2.1, r.2.2) = x := by rw [e1, e3]
    rw [hx3, ← htk] at hs
    refine ih (k + 1, rs3 ++ [(r.1, (a3, r.2.1.2.1, c3), r.2.2)]) _ _ ⟨hs.sel [1, 0] (by decide), by simp [hk3], by dsimp only; omega⟩ (by dsimp only; omega) (by repeat' (first | exact trivial | exact rfl | apply And.intro))
  · have hkn : k = rs2.length := by omega
    subst hkn
    rw [List.drop_length, List.append_nil, List.take_of_length_le (by omega)] at hs1
    have hs : St w NoF w2 [_, _] := hs1
    rw [hl2] at hs ⊢
    repeat' (first
      | (apply JL_nil)
      | ((apply JL_pure); (first
      | (apply as_move; exact OpR_move rfl is_rfl)
      | (apply as_assign; exact OpR_assign rfl is_rfl)
      | (apply as_binOp; exact OpR_ibin rfl rfl rfl is_rfl)); first | (exact rfl; exact rfl) | exact rfl)
      | (apply J_seq)
      | (apply J_region)
      | (apply aj_exit; refine J_exit rfl ?_)
      | (apply aj_cond; refine J_dec_f rfl ob ?_))
    refine J_leave Try.func58 rfl (.tmp rfl .nil) ⟨es2, rs3, hP2, hpw2, _, _, rfl, hs.out (List.Sublist.refl _)⟩
end Go.Eng
/- Lookups: what a rightful lookup is; its entries in order. -/
namespace Go.Eng
set_option linter.unusedSimpArgs false
set_option linter.unusedVariables false
theorem placeG_cases (es : List Ent) (t : List Int) (h : Int) : ∀ (f i : Nat), (0 < f → 0 < es.length) → placeG es t h f i = -1 ∨ ∃ q, q < es.length ∧ placeG es t h f i = (q : Int) ∧ (es.getD q e0).1 = 1 ∧ (es.getD q e0).2.1 = t
  | 0, i, _ => .inl rfl
  | f + 1, i, hl => by
    rw [placeG]
    split
    · exact .inl rfl
    · split
      · rename_i h1
        exact .inr ⟨_, probeN_lt _ _ (hl (by omega)), rfl, h1.1, h1.2⟩
      · exact placeG_cases es t h f (i + 1) (fun _ => hl (by omega))
theorem placeM_cases (es : List Ent) (t : List Int) : placeM es t = -1 ∨ ∃ (q : Nat) (x : Ent), es[q]? = some x ∧ placeM es t = (q : Int) ∧ x.1 = 1 ∧ x.2.1 = t := by
  rcases placeG_cases es t (ofM t) es.length 0 (fun h => h) with h | ⟨q, hq, h1, h2, h3⟩
  · exact .inl h
  · have hx : es[q]? = some es[q] := List.getElem?_eq_getElem hq
    rw [getD_ent hx] at h2 h3
    exact .inr ⟨q, _, hx, h1, h2, h3⟩
theorem okK_iff (es : List Ent) (k : Nat) : okK es k = true ↔ ∀ i, i < k → slotOk es i = true := by
  unfold okK; rw [List.all_eq_true]; simp
theorem check_slot {es : List Ent} (h : checkB es = true) {i : Nat} {x : Ent} (hx : es[i]? = some x) : (x.1 = 1 → typeB x.2.1 = true ∧ 0 ≤ x.2.2 ∧ placeM es x.2.1 = i) ∧ (x.1 ≠ 1 → x.2.1 = [] ∧ x.2.2 = 0) ∧ 0 ≤ x.1 ∧ x.1 ≤ 2 := by
  unfold checkB at h
  rw [Bool.and_eq_true] at h
  have hs := (okK_iff _ _).1 h.2 i (List.getElem?_eq_some_iff.1 hx).1
  have hst : stOk es = true := by have := h.1; unfold baseB at this; rw [Bool.and_eq_true] at this; exact this.1
  unfold stOk at hst
  have hb := of_decide_eq_true (List.all_eq_true.1 hst x (List.mem_of_getElem? hx))
  unfold slotOk at hs
  rw [getD_ent hx] at hs
  refine ⟨fun h1 => ?_, fun h1 => ?_, hb.1, hb.2⟩
  · rw [if_pos h1] at hs
    simp only [Bool.and_eq_true, decide_eq_true_eq] at hs
    exact hs
  · rw [if_neg h1] at hs
    simp only [Bool.and_eq_true, decide_eq_true_eq] at hs
    exact ⟨List.eq_nil_of_length_eq_zero hs.1, hs.2⟩
theorem check_mem {es : List Ent} (h : checkB es = true) {x : Ent} (hx : x ∈ es) : (x.1 = 1 → typeB x.2.1 = true ∧ 0 ≤ x.2.2) ∧ (x.1 ≠ 1 → x.2.1 = [] ∧ x.2.2 = 0) ∧ 0 ≤ x.1 ∧ x.1 ≤ 2 := by
  obtain ⟨i, hi⟩ := List.mem_iff_getElem?.1 hx
  obtain ⟨h1, h2, h3⟩ := check_slot h hi
  exact ⟨fun e => ⟨(h1 e).1, (h1 e).2.1⟩, h2, h3⟩
theorem check_len {es : List Ent} (h : checkB es = true) {x : Ent} (hx : x ∈ es) : x.2.1.length ≤ 12 := by
  obtain ⟨h1, h2, _⟩ := check_mem h hx
  by_cases c : x.1 = 1
  · exact (typeB_true.1 (h1 c).1).1
  · rw [(h2 c).1]; simp
/-- No two that stand have one type. -/
def distinctE (es : List Ent) : Prop := es.Pairwise (fun x y => x.2.1 ≠ y.2.1)
theorem check_distinct {es : List Ent} (h : checkB es = true) : distinctE (es.filter stands) := by
  have h1 : es.Pairwise (fun x y => x.1 = 1 → y.1 = 1 → x.2.1 ≠ y.2.1) := by
    rw [List.pairwise_iff_getElem]
    intro i j hi hj hij e1 e2 e3
    have hx := (check_slot h (List.getElem?_eq_getElem hi)).1 e1
    have hy := (check_slot h (List.getElem?_eq_getElem hj)).1 e2
    rw [e3] at hx
    have := hx.2.2.symm.trans hy.2.2
    omega
  have h2 := h1.filter stands
  refine List.Pairwise.imp_of_mem ?_ h2
  intro x y hx hy hxy
  exact hxy (of_decide_eq_true (List.mem_filter.1 hx).2) (of_decide_eq_true (List.mem_filter.1 hy).2)
abbrev sortedE (l : List Ent) : Prop := l.Pairwise (fun x y => 0 ≤ cmpL y.2.1 x.2.1)
theorem distinct_inj {l : List Ent} (h : distinctE l) {x y : Ent} (hx : x ∈ l) (hy : y ∈ l) (e : x.2.1 = y.2.1) : x = y := by
  obtain ⟨i, hi⟩ := List.mem_iff_getElem?.1 hx
  obtain ⟨j, hj⟩ := List.mem_iff_getElem?.1 hy
  obtain ⟨hi1, hi2⟩ := List.getElem?_eq_some_iff.1 hi
  obtain ⟨hj1, hj2⟩ := List.getElem?_eq_some_iff.1 hj
  unfold distinctE at h
  rw [List.pairwise_iff_getElem] at h
  have hc : i = j := by
    rcases Nat.lt_trichotomy i j with c | c | c
    · exact absurd (by rw [hi2, hj2]; exact e) (h i j hi1 hj1 c)
    · exact c
    · exact absurd (by rw [hi2, hj2]; exact e.symm) (h j i hj1 hi1 c)
  subst hc
  rw [hi] at hj; exact Option.some.inj hj
theorem sorted_uniqE {l1 l2 : List Ent} (hp : l1.Perm l2) (hd : distinctE l1) (h1 : sortedE l1) (h2 : sortedE l2) : l1 = l2 := by
  refine List.Perm.eq_of_pairwise (le := fun x y : Ent => 0 ≤ cmpL y.2.1 x.2.1) (fun x y hx hy q1 q2 => ?_) h1 h2 hp
  have hs := cmpL_swap x.2.1 y.2.1
  exact distinct_inj hd hx (hp.mem_iff.2 hy) (cmpL_eq (by omega))
/-- One more, before the first that is greater. -/
def withM (l : List Ent) (e : Ent) : List Ent := l.takeWhile (fun x => decide (¬ cmpL e.2.1 x.2.1 < 0)) ++ e :: l.dropWhile (fun x => decide (¬ cmpL e.2.1 x.2.1 < 0))
theorem withM_perm (l : List Ent) (e : Ent) : (withM l e).Perm (e :: l) := by
  unfold withM
  refine List.perm_middle.trans ?_
  rw [List.takeWhile_append_dropWhile]
theorem cmpL_le_trans {a b c : List Int} (h1 : 0 ≤ cmpL b a) (h2 : 0 ≤ cmpL c b) : 0 ≤ cmpL c a := by
  rcases Int.lt_or_le (cmpL c a) 0 with h | h
  · exfalso
    have hs1 := cmpL_swap a b
    have hs2 := cmpL_swap b c
    by_cases e : cmpL b a = 0
    · rw [cmpL_eq e] at h2; omega
    · have := cmpL_trans (xs := c) (ys := a) (zs := b) h (by omega)
      omega
  · exact h
theorem withM_sorted {l : List Ent} (h : sortedE l) (e : Ent) : sortedE (withM l e) := by
  unfold withM sortedE
  have hd : ∀ y ∈ l.dropWhile (fun x => decide (¬ cmpL e.2.1 x.2.1 < 0)), cmpL e.2.1 y.2.1 < 0 := by
    intro y hy
    cases hdw : l.dropWhile (fun x => decide (¬ cmpL e.2.1 x.2.1 < 0)) with
    | nil => rw [hdw] at hy; cases hy
    | cons z zs =>
      have hz : cmpL e.2.1 z.2.1 < 0 := by
        have := List.head?_dropWhile_not (fun x : Ent => decide (¬ cmpL e.2.1 x.2.1 < 0)) l
        rw [hdw] at this
        simpa using this
      have hsub : (z :: zs).Sublist l := by rw [← hdw]; exact List.dropWhile_sublist _
      have hpw := h.sublist hsub
      rw [hdw] at hy
      rcases List.mem_cons.1 hy with rfl | hy
      · exact hz
      · have := (List.pairwise_cons.1 hpw).1 y hy
        have hs := cmpL_swap z.2.1 y.2.1
        by_cases c : cmpL y.2.1 z.2.1 = 0
        · rw [cmpL_eq c]; exact hz
        · exact cmpL_trans hz (by omega)
  have ht : ∀ y ∈ l.takeWhile (fun x => decide (¬ cmpL e.2.1 x.2.1 < 0)), 0 ≤ cmpL e.2.1 y.2.1 := by
    intro y hy
    have := List.all_takeWhile (p := fun x : Ent => decide (¬ cmpL e.2.1 x.2.1 < 0)) (l := l)
    have := List.all_eq_true.1 this y hy
    have := of_decide_eq_true this
    omega
  rw [List.pairwise_append]
  refine ⟨h.sublist (List.takeWhile_sublist _), ?_, ?_⟩
  · rw [List.pairwise_cons]
    refine ⟨fun y hy => ?_, h.sublist (List.dropWhile_sublist _)⟩
    have := hd y hy
    have hs := cmpL_swap e.2.1 y.2.1
    omega
  · intro x hx y hy
    rcases List.mem_cons.1 hy with rfl | hy
    · exact ht x hx
    · have h1 := ht x hx
      have h2 := hd y hy
      have hs := cmpL_swap e.2.1 y.2.1
      exact cmpL_le_trans h1 (by omega)
/-- The entries that stand, in order. -/
def allM (es : List Ent) : List Ent := (es.filter stands).foldl withM []
theorem foldl_with (xs : List Ent) : ∀ l, sortedE l → sortedE (xs.foldl withM l) ∧ (xs.foldl withM l).Perm (xs ++ l) := by
  induction xs with
  | nil => exact fun l h => ⟨h, List.Perm.refl _⟩
  | cons x xs ih =>
    intro l h
    obtain ⟨h1, h2⟩ := ih (withM l x) (withM_sorted h x)
    refine ⟨h1, h2.trans ?_⟩
    refine ((withM_perm l x).append_left xs).trans ?_
    exact List.perm_middle
theorem allM_sorted (es : List Ent) : sortedE (allM es) := (foldl_with _ [] List.Pairwise.nil).1
theorem allM_perm (es : List Ent) : (allM es).Perm (es.filter stands) := by
  have := (foldl_with (es.filter stands) [] List.Pairwise.nil).2
  rwa [List.append_nil] at this
theorem allM_uniq {es es' : List Ent} (hd : distinctE (es.filter stands)) (hp : es'.Perm (es.filter stands)) (hs : sortedE es') : es' = allM es :=
  sorted_uniqE (hp.trans (allM_perm es).symm) ((hp.pairwise_iff (fun h => Ne.symm h)).2 hd) hs (allM_sorted es)
def findM (es : List Ent) (t : List Int) : Int × Bool := if checkB es then (if placeM es t < 0 then (0, false) else ((es.getD (placeM es t).toNat e0).2.2, true)) else (0, false)
def allF (es : List Ent) : List Ent := if checkB es then allM es else []
end Go.Eng
/- Lookups: New, Find, All, Many. -/
namespace Go.Eng
open Go.Proofs
set_option linter.unusedSimpArgs false
set_option linter.unusedVariables false
abbrev newR (n : Nat) : List REnt := List.replicate n r0
abbrev newE (n : Nat) : List Ent := List.replicate n e0
theorem zc_eq (n : Nat) : (madeCells (Value.agg #[.int .i64 0, .slice none 0 0, .int .i64 0]).cells (n * 3)).toList = encL cREnt (newR n) := by
  apply List.ext_getElem?
  intro i
  have hl : (encL cREnt (newR n)).length = n * 3 := by have := encL_len (d := dREnt) (newR n); rw [this, List.length_replicate]; rfl
  by_cases hi : i < n * 3
  · have hd : i / 3 < n := by omega
    have hx : (newR n)[i / 3]? = some r0 := by rw [List.getElem?_replicate, if_pos hd]
    have hg : (encL cREnt (newR n))[i / 3 * 3 + i % 3]? = (cREnt r0)[i % 3]? := encL_get (d := dREnt) (newR n) (i / 3) (i % 3) r0 hx (Nat.mod_lt _ (by decide))
    rw [show i / 3 * 3 + i % 3 = i by omega] at hg
    rw [hg]
    simp only [madeCells, Array.toList_map, Array.toList_range, List.getElem?_map, List.getElem?_range hi, Option.map_some]
    have h3 : i % 3 = 0 ∨ i % 3 = 1 ∨ i % 3 = 2 := by omega
    show some ((#[Value.int .i64 0, .slice none 0 0, .int .i64 0] : Array Value)[i % 3]!) = _
    rcases h3 with h | h | h <;> rw [h] <;> rfl
  · rw [List.getElem?_eq_none (by simp [madeCells]; omega), List.getElem?_eq_none (by omega)]
theorem newOwn (w : World) (n : Nat) : OwnV w (newR n) (newE n) := ⟨by simp, fun i r x hr hx => by
  rw [List.getElem?_replicate] at hr hx
  split at hr
  · rename_i h
    rw [if_pos h] at hx
    cases hr; cases hx
    exact ⟨⟨rfl, rfl, rfl, by unfold inK; decide, by unfold inK; decide⟩, rowV_nil w _ _, fun v hv => by cases hv⟩
  · cases hr⟩
theorem St.newOwn {w0 w : World} {F : Nat → Prop} {L : List HP} (h : St w0 F w L) (n : Nat) : St w0 F w (Own (newR n) (newE n) :: L) := by
  have hf : ∀ k, ¬ ownF (newR n) k := fun k ⟨r, hr, hk⟩ => by
    rw [List.eq_of_mem_replicate hr] at hk
    simp [afoot] at hk
  exact ⟨h.frm, fun d hd => by
      rcases List.mem_cons.1 hd with rfl | hd
      · exact Go.Eng.newOwn w n
      · exact h.all d hd,
    fun d hd k hk => by
      rcases List.mem_cons.1 hd with rfl | hd
      · exact absurd hk (hf k)
      · exact h.foot d hd k hk,
    List.pairwise_cons.2 ⟨fun d _ k hk => absurd hk (hf k), h.sep⟩⟩
attribute [local irreducible] Hold J JL JD JX JXat OpR OpG Ret RetV Is Blk Row MapC
set_option maxRecDepth 100000
set_option maxHeartbeats 1000000
theorem new_r (w : World) : Ret Try.prog 21 #[] w fun v w' => ∃ a, v = .agg #[.slice a 8 8] ∧ Fresh w w' [Row a 8 8 39 3 (encL cREnt (newR 8)), Own (newR 8) (newE 8)] := by
  refine Ret_of (l := []) Try.func21 rfl Try.ntmps21 (by simp) ?_
  have hs := St.init w
  repeat' (first
    | ((apply al_none (t := 1); refine JL_o (by apply as_makeSlice; exact OpR_make (n := 8) hs rfl rfl (by omega) (by omega)) rfl rfl ?_; rintro _ _ ⟨b1, rfl, hb1, hs, hE⟩; have hs := hs.toRow 0 8 8 3 (xs := encL cREnt (newR 8)) (Nat.le_refl _) (by unfold maxLen; omega) (by simp [madeCells]) (by rw [← zc_eq 8, List.drop_zero, List.take_of_length_le (by simp [madeCells])])))
    | (apply JL_nil)
    | ((apply JL_pure); (apply as_build; exact OpR_build rfl (by (simp only [bld, placesOf, splice, Value.cells, List.take_succ_cons, List.take_zero, List.drop_succ_cons, List.drop_zero, List.cons_append, List.nil_append, List.length_cons, List.length_nil, List.getElem?_cons_zero, List.getElem?_cons_succ, Option.map_some, List.append_nil, Nat.reduceAdd, Nat.reduceMul, Nat.zero_add, Nat.reduceLeDiff, and_self, if_true, List.toList_toArray, Nat.le_refl, Nat.zero_mul, Nat.one_mul]; first | done | rfl)) is_rfl); first | (exact rfl; exact rfl) | exact rfl)
    | (apply J_seq)
    | (apply J_region)
    | (apply al_none (t := 0); refine JL_o (by apply as_alloc; exact OpR_alloc' hs) rfl rfl ?_; rintro _ _ ⟨b0, rfl, hb0, hs, hE⟩)
    | (apply al_unit; refine JL_u (by apply as_store; exact OpR_store' hs rfl rfl rfl) rfl ?_; rintro _ _ ⟨hs, hF⟩))
  have hs : St w NoF _ [_, _, _] := (hs.newOwn 8).sel [1, 0, 2] (by decide)
  refine J_leave Try.func21 rfl (.agg' hs rfl rfl .nil) ⟨_, rfl, hs.out (.cons_cons _ (.cons_cons _ (List.nil_sublist _)))⟩
theorem find_r (w : World) (a : Option Addr) (n c : Nat) (es : List Ent) (a2 : Option Addr) (n2 c2 : Nat) (t : List Int) (h : Sl dEnt All w a n c es) (hn : n ≤ 1048576) (h2 : Sl (tInt .u64) All w a2 n2 c2 t) :
    Ret Try.prog 19 #[.agg #[.slice a n c], .slice a2 n2 c2] w fun v w' => v = .tuple #[.int .i64 (findM es t).1, .bool (findM es t).2] ∧ Ext w w' := by
  refine Ret_of (l := [_, _]) Try.func19 rfl Try.ntmps19 (by simp) ?_
  have hs := St.init w
  obtain ⟨rs, hr, hm⟩ := Sl.raw (D := rawEnt) h
  have hl := hr.len
  have hle := h.len
  unfold findM
  by_cases hc : checkB es = true
  · rw [if_pos hc]
    rcases placeM_cases es t with hp | ⟨q, x, hx, hp, hx1, hx2⟩
    · rw [hp, if_pos (by decide)]
      repeat' (first
        | ((apply al_call 16; refine JL_o (by exact OpR_callF en16 rfl (lcheck_r _ a n c es (h.st hs) hn)) rfl rfl ?_; rintro _ _ ⟨rfl, hE⟩; rw [if_pos hc]; have hs := hs.ext hE; (try simp only [List.cons_append, List.nil_append] at hs)))
        | ((apply al_call 60; refine JL_o (by exact OpR_callF en60 rfl (place_r _ a n c es a2 n2 c2 t (h.st hs) hn (h2.st hs))) rfl rfl ?_; rintro _ _ ⟨rfl, hE⟩; rw [hp]; have hs := hs.ext hE; (try simp only [List.cons_append, List.nil_append] at hs)))
        | (apply JL_nil)
        | ((apply JL_pure); (first
      | (apply as_move; exact OpR_move rfl is_rfl)
      | (apply as_assign; exact OpR_assign rfl is_rfl)
      | (apply as_load; exact OpR_load_agg' hs rfl is_rfl)
      | (apply as_binOp; exact OpR_ibin rfl rfl rfl is_rfl)); first | (exact rfl; exact rfl) | exact rfl)
        | (apply J_seq)
        | (apply J_region)
        | (apply J_skip)
        | (apply al_none (t := 2); refine JL_o (by apply as_box; exact OpR_box' hs rfl) rfl rfl ?_; rintro _ _ ⟨b2, rfl, hb2, hs, hE⟩)
        | (apply aj_cond; first | refine J_dec_t rfl ob ?_ | refine J_dec_f rfl ob ?_))
      refine J_leave Try.func19 rfl (.tmp rfl (.tmp rfl .nil)) ⟨rfl, hs.frm.ext⟩
    · have hq : q < n := by rw [← hle]; exact (List.getElem?_eq_some_iff.1 hx).1
      obtain ⟨p1, o1, rfl⟩ := hr.sl.addr (by omega)
      obtain ⟨r, hrx, hrel⟩ := hm.get hx
      have e3 : r.2.2 = x.2.2 := hrel.2.2
      rw [hp, if_neg (by omega), Int.toNat_natCast, getD_ent hx, ← e3]
      repeat' (first
        | ((apply al_call 16; refine JL_o (by exact OpR_callF en16 rfl (lcheck_r _ (some ⟨p1, o1, none⟩) n c es (h.st hs) hn)) rfl rfl ?_; rintro _ _ ⟨rfl, hE⟩; rw [if_pos hc]; have hs := hs.ext hE; (try simp only [List.cons_append, List.nil_append] at hs)))
        | ((apply al_call 60; refine JL_o (by exact OpR_callF en60 rfl (place_r _ (some ⟨p1, o1, none⟩) n c es a2 n2 c2 t (h.st hs) hn (h2.st hs))) rfl rfl ?_; rintro _ _ ⟨rfl, hE⟩; rw [hp]; have hs := hs.ext hE; (try simp only [List.cons_append, List.nil_append] at hs)))
        | (apply JL_nil)
        | ((apply JL_pure); (first
      | (apply as_load; first | exact OpR_load' hs rfl rfl is_rfl | exact OpR_load_agg' hs rfl is_rfl | exact OpR_load_el1 (i := q) (j := 2) (hr.st hs) hrx rfl rfl rfl is_rfl)
      | (apply as_move; exact OpR_move rfl is_rfl)
      | (apply as_assign; exact OpR_assign rfl is_rfl)
      | (apply as_fieldAddr; first | exact OpR_fieldAddr0 rfl rfl is_rfl | exact OpR_fieldAddr rfl rfl is_rfl)
      | (apply as_binOp; exact OpR_ibin rfl rfl rfl is_rfl)
      | (apply as_indexAddr; exact OpR_indexAddr rfl rfl (by omega) (by omega) is_rfl)); first | (exact rfl; exact rfl) | exact rfl)
        | (apply J_seq)
        | (apply J_region)
        | (apply J_skip)
        | (apply al_none (t := 2); refine JL_o (by apply as_box; exact OpR_box' hs rfl) rfl rfl ?_; rintro _ _ ⟨b2, rfl, hb2, hs, hE⟩)
        | (apply aj_cond; refine J_dec_f rfl ob ?_))
      refine J_leave Try.func19 rfl (.tmp rfl (.tmp rfl .nil)) ⟨rfl, hs.frm.ext⟩
  · rw [if_neg hc]
    repeat' (first
      | ((apply al_call 16; refine JL_o (by exact OpR_callF en16 rfl (lcheck_r _ a n c es (h.st hs) hn)) rfl rfl ?_; rintro _ _ ⟨rfl, hE⟩; rw [if_neg hc]; have hs := hs.ext hE; (try simp only [List.cons_append, List.nil_append] at hs)))
      | (apply JL_nil)
      | ((apply JL_pure); (first
      | (apply as_assign; exact OpR_assign rfl is_rfl)
      | (apply as_load; exact OpR_load_agg' hs rfl is_rfl)
      | (apply as_binOp; exact OpR_ibin rfl rfl rfl is_rfl)); first | (exact rfl; exact rfl) | exact rfl)
      | (apply J_seq)
      | (apply J_region)
      | (apply al_none (t := 2); refine JL_o (by apply as_box; exact OpR_box' hs rfl) rfl rfl ?_; rintro _ _ ⟨b2, rfl, hb2, hs, hE⟩)
      | (apply aj_cond; refine J_dec_t rfl ob ?_))
    refine J_leave Try.func19 rfl (.tmp rfl (.tmp rfl .nil)) ⟨rfl, hs.frm.ext⟩
theorem all_r (w : World) (a : Option Addr) (n c : Nat) (es : List Ent) (h : Sl dEnt All w a n c es) (hn : n ≤ 1048576) :
    Ret Try.prog 15 #[.agg #[.slice a n c]] w fun v w' => ∃ a' c' rs', v = .slice a' (allF es).length c' ∧ Fresh w w' [Row a' (allF es).length c' 39 3 (encL cREnt rs'), Own rs' (allF es)] := by
  refine Ret_of (l := [_]) Try.func15 rfl Try.ntmps15 (by simp) ?_
  have hs := St.init w
  unfold allF
  by_cases hc : checkB es = true
  · rw [if_pos hc]
    have hlen := fun x hx => Nat.le_trans (check_len hc (x := x) hx) (by decide : 12 ≤ 4000000000)
    repeat' (first
      | ((apply al_call 16; refine JL_o (by exact OpR_callF en16 rfl (lcheck_r _ a n c es (h.st hs) hn)) rfl rfl ?_; rintro _ _ ⟨rfl, hE⟩; rw [if_pos hc]; have hs := hs.ext hE; (try simp only [List.cons_append, List.nil_append] at hs)))
      | ((apply al_call 58; refine JL_o (by exact OpR_callF en58 rfl (used_r _ a n c es (h.st hs) hn hlen)) rfl rfl ?_; rintro _ _ ⟨es', rs', hp, hpw, a', c', rfl, hf⟩; have hs := hs.fresh hf; (try simp only [List.cons_append, List.nil_append] at hs)))
      | (apply JL_nil)
      | ((apply JL_pure); (first
      | (apply as_assign; exact OpR_assign rfl is_rfl)
      | (apply as_load; exact OpR_load_agg' hs rfl is_rfl)
      | (apply as_binOp; exact OpR_ibin rfl rfl rfl is_rfl)); first | (exact rfl; exact rfl) | exact rfl)
      | (apply J_seq)
      | (apply J_region)
      | (apply J_skip)
      | (apply al_none (t := 1); refine JL_o (by apply as_box; exact OpR_box' hs rfl) rfl rfl ?_; rintro _ _ ⟨b1, rfl, hb1, hs, hE⟩)
      | (apply aj_cond; refine J_dec_f rfl ob ?_))
    have e := allM_uniq (check_distinct hc) hp hpw
    subst e
    refine J_leave Try.func15 rfl (.tmp rfl .nil) ⟨_, _, rs', rfl, hs.out (.cons_cons _ (.cons_cons _ (List.nil_sublist _)))⟩
  · rw [if_neg hc]
    repeat' (first
      | ((apply al_call 16; refine JL_o (by exact OpR_callF en16 rfl (lcheck_r _ a n c es (h.st hs) hn)) rfl rfl ?_; rintro _ _ ⟨rfl, hE⟩; rw [if_neg hc]; have hs := hs.ext hE; (try simp only [List.cons_append, List.nil_append] at hs)))
      | (apply JL_nil)
      | ((apply JL_pure); (first
      | (apply as_assign; exact OpR_assign rfl is_rfl)
      | (apply as_load; exact OpR_load_agg' hs rfl is_rfl)
      | (apply as_binOp; exact OpR_ibin rfl rfl rfl is_rfl)); first | (exact rfl; exact rfl) | exact rfl)
      | (apply J_seq)
      | (apply J_region)
      | (apply al_none (t := 1); refine JL_o (by apply as_box; exact OpR_box' hs rfl) rfl rfl ?_; rintro _ _ ⟨b1, rfl, hb1, hs, hE⟩)
      | (apply aj_cond; refine J_dec_t rfl ob ?_))
    have hs := hs.nilOwn.nilRow 39 3
    refine J_leave Try.func15 rfl (.tmp rfl .nil) ⟨_, _, [], rfl, hs.out (.cons_cons _ (.cons_cons _ (List.nil_sublist _)))⟩
theorem many_r (w : World) (a : Option Addr) (n c : Nat) (es : List Ent) (h : Sl dEnt All w a n c es) (hn : n ≤ 1048576) :
    Ret Try.prog 18 #[.agg #[.slice a n c]] w fun v w' => v = .int .i64 (allF es).length ∧ Ext w w' := by
  refine Ret_of (l := [_]) Try.func18 rfl Try.ntmps18 (by simp) ?_
  have hs := St.init w
  repeat' (first
    | ((apply al_call 15; refine JL_o (by exact OpR_callF en15 rfl (all_r _ a n c es (h.st hs) hn)) rfl rfl ?_; rintro _ _ ⟨a', c', rs', rfl, hf⟩; have hs := hs.fresh hf; (try simp only [List.cons_append, List.nil_append] at hs)))
    | (apply JL_nil)
    | ((apply JL_pure); (first
      | (apply as_assign; exact OpR_assign rfl is_rfl)
      | (apply as_load; exact OpR_load_agg' hs rfl is_rfl)
      | (apply as_b_len; exact OpR_len rfl is_rfl)); first | (exact rfl; exact rfl) | exact rfl)
    | (apply J_seq)
    | (apply J_region)
    | (apply al_none (t := 1); refine JL_o (by apply as_box; exact OpR_box' hs rfl) rfl rfl ?_; rintro _ _ ⟨b1, rfl, hb1, hs, hE⟩))
  refine J_leave Try.func18 rfl (.tmp rfl .nil) ⟨rfl, hs.frm.ext⟩
end Go.Eng
/- Lookups: the reference's Found. -/
namespace Go.Eng
open Go.Proofs
set_option linter.unusedSimpArgs false
set_option linter.unusedVariables false
/-- From turn k on, f turns more: is slot i the one that the type is met at. -/
def foundG (es : List Ent) (t : List Int) (h : Int) (i : Nat) : Nat → Nat → Bool
  | 0, _ => false
  | f + 1, k =>
    if probeN h es.length k = i then decide ((es.getD i e0).1 = 1) && decide ((es.getD i e0).2.1 = t) else
    if (es.getD (probeN h es.length k) e0).1 = 0 then false else foundG es t h i f (k + 1)
def foundM (es : List Ent) (t : List Int) (i : Nat) : Bool := foundG es t (ofM t) i es.length 0
theorem found_step {es : List Ent} {t : List Int} {h : Int} {i k : Nat} (hk : k < es.length) {q : Nat} (hq : q = probeN h es.length k) {x : Ent} (hx : es[q]? = some x) :
    foundG es t h i (es.length - k) k = if q = i then (decide (x.1 = 1) && decide (x.2.1 = t)) else if x.1 = 0 then false else foundG es t h i (es.length - (k + 1)) (k + 1) := by
  rw [show es.length - k = (es.length - (k + 1)) + 1 by omega, foundG, ← hq, getD_ent hx]
  by_cases c : q = i
  · subst c; rw [if_pos rfl, if_pos rfl, getD_ent hx]
  · rw [if_neg c, if_neg c]
theorem found_of_placeG {es : List Ent} {t : List Int} {h : Int} {i : Nat} : ∀ (f k : Nat), placeG es t h f k = (i : Int) → foundG es t h i f k = true
  | 0, k, e => by unfold placeG at e; omega
  | f + 1, k, e => by
    unfold placeG at e
    unfold foundG
    by_cases c0 : (es.getD (probeN h es.length k) e0).1 = 0
    · rw [if_pos c0] at e; omega
    · rw [if_neg c0] at e
      by_cases c1 : (es.getD (probeN h es.length k) e0).1 = 1 ∧ (es.getD (probeN h es.length k) e0).2.1 = t
      · rw [if_pos c1] at e
        have e : probeN h es.length k = i := by omega
        rw [if_pos e, ← e, c1.1, c1.2]; simp
      · rw [if_neg c1] at e
        by_cases c2 : probeN h es.length k = i
        · exfalso
          rcases placeG_cases es t h f (k + 1) (fun hf => by
            rcases Nat.eq_zero_or_pos es.length with hz | hz
            · exfalso
              have : es = [] := List.eq_nil_of_length_eq_zero hz
              subst this
              simp at c0
            · exact hz) with hp | ⟨q, hq, hp, h1, h2⟩
          · omega
          · have : q = i := by omega
            subst this
            rw [c2] at c1; exact c1 ⟨h1, h2⟩
        · rw [if_neg c2, if_neg c0]; exact found_of_placeG f (k + 1) e
/-- Where no other slot has the type, what is found is the place. -/
theorem place_of_foundG {es : List Ent} {t : List Int} {h : Int} {i : Nat} (hu : ∀ q, (es.getD q e0).1 = 1 → (es.getD q e0).2.1 = t → q = i) : ∀ (f k : Nat), foundG es t h i f k = true → placeG es t h f k = (i : Int)
  | 0, k, e => by unfold foundG at e; cases e
  | f + 1, k, e => by
    unfold foundG at e
    unfold placeG
    by_cases c2 : probeN h es.length k = i
    · rw [if_pos c2] at e
      simp only [Bool.and_eq_true, decide_eq_true_eq] at e
      rw [c2, if_neg (by omega), if_pos e]
    · rw [if_neg c2] at e
      by_cases c0 : (es.getD (probeN h es.length k) e0).1 = 0
      · rw [if_pos c0] at e; cases e
      · rw [if_neg c0] at e
        rw [if_neg c0, if_neg (fun c1 => c2 (hu _ c1.1 c1.2))]
        exact place_of_foundG hu f (k + 1) e
attribute [local irreducible] Hold J JL JD JX JXat OpR OpG Ret RetV Is Blk Row MapC
set_option maxRecDepth 100000
set_option maxHeartbeats 1000000
theorem foundR_r (w : World) (a : Option Addr) (n c : Nat) (es : List Ent) (a2 : Option Addr) (n2 c2 : Nat) (t : List Int) (i : Nat) (h : Sl dEnt All w a n c es) (hn : n ≤ 1048576) (h2 : Sl (tInt .u64) All w a2 n2 c2 t) (hi : i < n) :
    Ret Try.prog 56 #[.agg #[.slice a n c], .slice a2 n2 c2, .int .i64 i] w fun v w' => v = .bool (foundM es t i) ∧ Ext w w' := by
  refine Ret_of (l := [_, _, _]) Try.func56 rfl Try.ntmps56 (by simp) ?_
  have hs := St.init w
  obtain ⟨rs, hr, hm⟩ := Sl.raw (D := rawEnt) h
  have hl := hr.len
  have hle := h.len
  have hh := ofM_lt t
  obtain ⟨p1, o1, rfl⟩ := hr.sl.addr (by omega)
  have hxi : es[i]? = some es[i] := List.getElem?_eq_getElem (by omega)
  obtain ⟨y, hyd⟩ : ∃ y, y = es[i] := ⟨_, rfl⟩
  rw [← hyd] at hxi
  obtain ⟨ri, hri, hreli⟩ := hm.get hxi
  have ei1 : ri.1 = y.1 := hreli.1
  have mi : Sl (tInt .u64) All w ri.2.1.1 ri.2.1.2.1 ri.2.1.2.2 y.2.1 := hreli.2.1
  repeat' (first
    | ((apply al_call 106; refine JL_o (by exact OpR_callF en106 rfl (ofR_r _ a2 n2 c2 t (h2.st hs))) rfl rfl ?_; rintro _ _ ⟨rfl, hE⟩; have hs := hs.ext hE; (try simp only [List.cons_append, List.nil_append] at hs)))
    | (apply JL_nil)
    | ((apply JL_pure); (first
      | (apply as_move; exact OpR_move rfl is_rfl)
      | (apply as_assign; exact OpR_assign rfl is_rfl)
      | (apply as_fieldAddr; exact OpR_fieldAddr0 rfl rfl is_rfl)
      | (apply as_load; exact OpR_load' hs rfl rfl is_rfl)
      | (apply as_b_len; exact OpR_len rfl is_rfl)); first | (exact rfl; exact rfl) | exact rfl)
    | (apply J_seq)
    | (apply J_region)
    | (apply J_block)
    | (apply al_none (t := 3); refine JL_o (by apply as_box; exact OpR_box' hs rfl) rfl rfl ?_; rintro _ _ ⟨b3, rfl, hb3, hs, hE⟩))
  refine J_loopK (α := Nat) [(1, _), (2, _), (3, _), (7, _), (14, _)] (fun k => [(15, .int .i64 k)]) (fun k w' => St w NoF w' [Blk b3 (.cells #[.slice (some ⟨p1, o1, none⟩) n c] 24 (0, 0))] ∧ k ≤ n ∧ foundG es t (ofM t) i (n - k) k = foundM es t i) (fun k => n - k) 0 ⟨hs, by omega, by unfold foundM; rw [hle]; rfl⟩ (by repeat' (first | exact trivial | exact rfl | apply And.intro)) ?_
  rintro k w' ⟨hs1, hk, hG⟩ ih
  have hs : St w NoF w' [_] := hs1
  by_cases hlt : k < n
  · obtain ⟨q, hqd⟩ : ∃ q, q = probeN (ofM t) n k := ⟨_, rfl⟩
    have hq : q < n := by rw [hqd]; exact probeN_lt _ _ (by omega)
    have hx : es[q]? = some es[q] := List.getElem?_eq_getElem (by omega)
    obtain ⟨x, hxd⟩ : ∃ x, x = es[q] := ⟨_, rfl⟩
    rw [← hxd] at hx
    obtain ⟨r, hrx, hrel⟩ := hm.get hx
    have e1 : r.1 = x.1 := hrel.1
    have hst := found_step (es := es) (t := t) (h := ofM t) (i := i) (k := k) (by omega) (by rw [hle]; exact hqd) hx
    rw [hle] at hst
    rw [hst] at hG
    by_cases c : q = i
    · rw [if_pos c] at hG
      have hxy : x = y := by rw [c] at hx; rw [hxi] at hx; exact (Option.some.inj hx).symm
      rw [hxy] at hG
      rw [← hG]
      by_cases c1 : ri.1 = 1
      · rw [decide_eq_true (by omega : y.1 = 1), Bool.true_and]
        repeat' (first
          | ((apply al_call 107; refine JL_o (by exact OpR_callF en107 rfl (probeR_r _ (ofM t) n k hh ⟨by omega, by omega⟩)) rfl rfl ?_; rintro _ _ ⟨rfl, hE⟩; rw [← hqd]; have hs := hs.ext hE; (try simp only [List.cons_append, List.nil_append] at hs)))
          | ((apply al_callg 57; refine JL_o_on rfl gb (by exact OpR_callF en57 rfl (sameR_r _ ri.2.1.1 a2 ri.2.1.2.1 ri.2.1.2.2 n2 c2 y.2.1 t (mi.st hs) (h2.st hs))) rfl rfl ?_; rintro _ _ ⟨rfl, hE⟩; have hs := hs.ext hE; (try simp only [List.cons_append, List.nil_append] at hs)))
          | (apply JL_nil)
          | ((first | (apply JL_pure) | (apply JL_pure_on; exact rfl; exact gb)); (first
      | (apply as_load; first | exact OpR_load' hs rfl rfl is_rfl | exact OpR_load_agg' hs rfl is_rfl | exact OpR_load_el1 (i := i) (j := 0) (hr.st hs) hri rfl rfl rfl is_rfl | exact OpR_load_el1 (i := i) (j := 1) (hr.st hs) hri rfl rfl rfl is_rfl)
      | (apply as_move; exact OpR_move rfl is_rfl)
      | (apply as_assign; exact OpR_assign rfl is_rfl)
      | (apply as_fieldAddr; first | exact OpR_fieldAddr0 rfl rfl is_rfl | exact OpR_fieldAddr rfl rfl is_rfl)
      | (apply as_binOp; exact OpR_ibin rfl rfl rfl is_rfl)
      | (apply as_pick; exact OpR_pick_t rfl gb rfl is_rfl)
      | (apply as_b_len; exact OpR_len rfl is_rfl)
      | (apply as_indexAddr; exact OpR_indexAddr rfl rfl (by omega) (by omega) is_rfl)); first | (exact rfl; exact rfl) | exact rfl)
          | (apply J_seq)
          | (apply J_region)
          | (apply J_block)
          | (apply J_skip)
          | (apply aj_cond; refine J_dec_t rfl ob ?_))
        refine J_leave Try.func56 rfl (.tmp rfl .nil) ⟨rfl, hs.frm.ext⟩
      · rw [decide_eq_false (by omega : ¬ y.1 = 1), Bool.false_and]
        repeat' (first
          | ((apply al_call 107; refine JL_o (by exact OpR_callF en107 rfl (probeR_r _ (ofM t) n k hh ⟨by omega, by omega⟩)) rfl rfl ?_; rintro _ _ ⟨rfl, hE⟩; rw [← hqd]; have hs := hs.ext hE; (try simp only [List.cons_append, List.nil_append] at hs)))
          | (apply JL_nil)
          | ((apply JL_pure); (first
      | (apply as_load; first | exact OpR_load' hs rfl rfl is_rfl | exact OpR_load_agg' hs rfl is_rfl | exact OpR_load_el1 (i := i) (j := 0) (hr.st hs) hri rfl rfl rfl is_rfl | exact OpR_load_el1 (i := i) (j := 1) (hr.st hs) hri rfl rfl rfl is_rfl)
      | (apply as_move; exact OpR_move rfl is_rfl)
      | (apply as_assign; exact OpR_assign rfl is_rfl)
      | (apply as_fieldAddr; first | exact OpR_fieldAddr0 rfl rfl is_rfl | exact OpR_fieldAddr rfl rfl is_rfl)
      | (apply as_binOp; exact OpR_ibin rfl rfl rfl is_rfl)
      | (apply as_pick; exact OpR_pick_f rfl gb rfl is_rfl)
      | (apply as_b_len; exact OpR_len rfl is_rfl)
      | (apply as_indexAddr; exact OpR_indexAddr rfl rfl (by omega) (by omega) is_rfl)); first | (exact rfl; exact rfl) | exact rfl)
          | (apply J_seq)
          | (apply J_region)
          | (apply J_block)
          | (apply J_skip)
          | (apply al_guard; (refine JL_no rfl gb rfl ?_))
          | (apply aj_cond; refine J_dec_t rfl ob ?_))
        refine J_leave Try.func56 rfl (.tmp rfl .nil) ⟨rfl, hs.frm.ext⟩
    · rw [if_neg c] at hG
      by_cases c0 : r.1 = 0
      · rw [if_pos (by omega)] at hG
        rw [← hG]
        repeat' (first
          | ((apply al_call 107; refine JL_o (by exact OpR_callF en107 rfl (probeR_r _ (ofM t) n k hh ⟨by omega, by omega⟩)) rfl rfl ?_; rintro _ _ ⟨rfl, hE⟩; rw [← hqd]; have hs := hs.ext hE; (try simp only [List.cons_append, List.nil_append] at hs)))
          | (apply JL_nil)
          | ((apply JL_pure); (first
      | (apply as_load; first | exact OpR_load' hs rfl rfl is_rfl | exact OpR_load_agg' hs rfl is_rfl | exact OpR_load_el1 (i := q) (j := 0) (hr.st hs) hrx rfl rfl rfl is_rfl)
      | (apply as_move; exact OpR_move rfl is_rfl)
      | (apply as_assign; exact OpR_assign rfl is_rfl)
      | (apply as_fieldAddr; first | exact OpR_fieldAddr0 rfl rfl is_rfl | exact OpR_fieldAddr rfl rfl is_rfl)
      | (apply as_binOp; exact OpR_ibin rfl rfl rfl is_rfl)
      | (apply as_b_len; exact OpR_len rfl is_rfl)
      | (apply as_indexAddr; exact OpR_indexAddr rfl rfl (by omega) (by omega) is_rfl)); first | (exact rfl; exact rfl) | exact rfl)
          | (apply J_seq)
          | (apply J_region)
          | (apply J_block)
          | (apply J_skip)
          | (apply aj_cond; first | refine J_dec_t rfl ob ?_ | refine J_dec_f rfl ob ?_))
        refine J_leave Try.func56 rfl (.tmp rfl .nil) ⟨rfl, hs.frm.ext⟩
      · rw [if_neg (by omega)] at hG
        repeat' (first
          | ((apply al_call 107; refine JL_o (by exact OpR_callF en107 rfl (probeR_r _ (ofM t) n k hh ⟨by omega, by omega⟩)) rfl rfl ?_; rintro _ _ ⟨rfl, hE⟩; rw [← hqd]; have hs := hs.ext hE; (try simp only [List.cons_append, List.nil_append] at hs)))
          | (apply JL_nil)
          | ((apply JL_pure); (first
      | (apply as_load; first | exact OpR_load' hs rfl rfl is_rfl | exact OpR_load_agg' hs rfl is_rfl | exact OpR_load_el1 (i := q) (j := 0) (hr.st hs) hrx rfl rfl rfl is_rfl)
      | (apply as_move; exact OpR_move rfl is_rfl)
      | (apply as_assign; exact OpR_assign rfl is_rfl)
      | (apply as_fieldAddr; first | exact OpR_fieldAddr0 rfl rfl is_rfl | exact OpR_fieldAddr rfl rfl is_rfl)
      | (apply as_add; exact OpR_addn rfl rfl (by omega) (by first | (simp only [Int.reduceAdd]; exact rfl) | exact rfl) is_rfl)
      | (apply as_binOp; exact OpR_ibin rfl rfl rfl is_rfl)
      | (apply as_b_len; exact OpR_len rfl is_rfl)
      | (apply as_indexAddr; exact OpR_indexAddr rfl rfl (by omega) (by omega) is_rfl)); first | (exact rfl; exact rfl) | exact rfl)
          | (apply J_seq)
          | (apply J_region)
          | (apply J_block)
          | (apply J_inBlock)
          | (apply J_skip)
          | (apply aj_cond; first | refine J_dec_t rfl ob ?_ | refine J_dec_f rfl ob ?_))
        refine ih (k + 1) _ _ ⟨hs, by omega, hG⟩ (by omega) (by repeat' (first | exact trivial | exact rfl | apply And.intro))
  · have hkn : k = n := by omega
    rw [hkn, Nat.sub_self] at hG
    rw [← hG]
    repeat' (first
      | (apply JL_nil)
      | ((apply JL_pure); (first
      | (apply as_assign; exact OpR_assign rfl is_rfl)
      | (apply as_binOp; exact OpR_ibin rfl rfl rfl is_rfl)); first | (exact rfl; exact rfl) | exact rfl)
      | (apply J_seq)
      | (apply J_region)
      | (apply aj_exit; refine J_exit rfl ?_)
      | (apply aj_cond; refine J_dec_f rfl ob ?_))
    refine J_leave Try.func56 rfl (.tmp rfl .nil) ⟨rfl, hs.frm.ext⟩
end Go.Eng
/- Lookups: the reference's Right. -/
namespace Go.Eng
open Go.Proofs
set_option linter.unusedSimpArgs false
set_option linter.unusedVariables false
def slotR (es : List Ent) (i : Nat) : Bool :=
  if (es.getD i e0).1 = 0 ∨ (es.getD i e0).1 = 2 then decide ((es.getD i e0).2.1.length = 0) && decide ((es.getD i e0).2.2 = 0) else
  if (es.getD i e0).1 = 1 then typeB (es.getD i e0).2.1 && (decide (0 ≤ (es.getD i e0).2.2) && (foundM es (es.getD i e0).2.1 i && (List.range i).all (fun j => !(decide ((es.getD j e0).1 = 1) && decide ((es.getD i e0).2.1 = (es.getD j e0).2.1))))) else false
def okR (es : List Ent) (k : Nat) : Bool := (List.range k).all (slotR es)
def cntN (es : List Ent) (k : Nat) : Nat := ((es.take k).filter (fun x => decide (x.1 ≠ 0))).length
def powB (n : Nat) : Bool := decide (8 ≤ n) && decide (iand (n : Int) ((n : Int) - 1) = 0)
def rightM (es : List Ent) : Bool := powB es.length && (okR es es.length && (decide (4 * cntN es es.length ≤ 3 * es.length) && decide (cntN es es.length ≤ 4000)))
theorem okR_succ (es : List Ent) (k : Nat) : okR es (k + 1) = (okR es k && slotR es k) := by
  unfold okR; rw [List.range_succ, List.all_append]; simp
theorem okR_false {es : List Ent} {k n : Nat} (hk : k < n) (h : slotR es k = false) : okR es n = false := by
  unfold okR; rw [List.all_eq_false]; exact ⟨k, List.mem_range.2 hk, by simp [h]⟩
theorem cntN_succ {es : List Ent} {k : Nat} {x : Ent} (h : es[k]? = some x) : cntN es (k + 1) = cntN es k + if x.1 = 0 then 0 else 1 := by
  unfold cntN
  rw [List.take_add_one, h, List.filter_append, List.length_append]
  congr 1
  by_cases h0 : x.1 = 0
  · simp [h0]
  · simp [h0]
theorem cntN_le (es : List Ent) (k : Nat) : cntN es k ≤ k := by
  unfold cntN
  refine Nat.le_trans (List.length_filter_le _ _) ?_
  simp; omega
theorem powB_iff (n : Nat) : powB n = true ↔ ∃ j, n = 8 * 2 ^ j := by
  unfold powB
  rw [Bool.and_eq_true, decide_eq_true_eq, decide_eq_true_eq]
  have hi : ∀ h : 8 ≤ n, iand (n : Int) ((n : Int) - 1) = ((n &&& n - 1 : Nat) : Int) := fun h => by
    unfold iand
    rw [Int.toNat_natCast, show ((n : Int) - 1).toNat = n - 1 by omega]
  constructor
  · rintro ⟨h8, h⟩
    rw [hi h8] at h
    have h : n &&& n - 1 = 0 := by omega
    obtain ⟨k, hk⟩ := (Nat.and_sub_one_eq_zero_iff_isPowerOfTwo (by omega)).1 h
    have hk3 : 3 ≤ k := by
      rcases Nat.lt_or_ge k 3 with c | c
      · have : (2 : Nat) ^ k ≤ 2 ^ 2 := Nat.pow_le_pow_right (by decide) (by omega)
        omega
      · exact c
    exact ⟨k - 3, by rw [hk, show k = 3 + (k - 3) by omega, Nat.pow_add]; simp⟩
  · rintro ⟨j, rfl⟩
    have hp : 0 < 2 ^ j := Nat.pow_pos (by decide)
    have h8 : 8 ≤ 8 * 2 ^ j := by omega
    refine ⟨h8, ?_⟩
    unfold iand
    rw [Int.toNat_natCast, show (((8 * 2 ^ j : Nat) : Int) - 1).toNat = 8 * 2 ^ j - 1 by omega]
    have : 8 * 2 ^ j &&& 8 * 2 ^ j - 1 = 0 := (Nat.and_sub_one_eq_zero_iff_isPowerOfTwo (by omega)).2 ⟨3 + j, by rw [Nat.pow_add]⟩
    rw [this]; rfl
theorem powB_dbl {n N j : Nat} (hN : N = 8 * 2 ^ j) (hlo : j = 0 ∨ 8 * 2 ^ (j - 1) < n) (hhi : n ≤ N) : powB n = decide (n = N) := by
  by_cases h : n = N
  · rw [decide_eq_true h]; exact (powB_iff n).2 ⟨j, by rw [h, hN]⟩
  · rw [decide_eq_false h]
    cases hp : powB n with
    | false => rfl
    | true =>
      exfalso
      obtain ⟨i, hi⟩ := (powB_iff n).1 hp
      rcases Nat.lt_trichotomy i j with c | c | c
      · have : (2 : Nat) ^ i ≤ 2 ^ (j - 1) := Nat.pow_le_pow_right (by decide) (by omega)
        rcases hlo with h0 | h0
        · omega
        · omega
      · subst c; omega
      · have : (2 : Nat) ^ (j + 1) ≤ 2 ^ i := Nat.pow_le_pow_right (by decide) (by omega)
        rw [Nat.pow_succ] at this
        have hp : 0 < 2 ^ j := Nat.pow_pos (by decide)
        omega
attribute [local irreducible] Hold J JL JD JX JXat OpR OpG Ret RetV Is Blk Row MapC
set_option maxRecDepth 100000
set_option maxHeartbeats 1000000
theorem right7_r (w : World) (a : Option Addr) (n c : Nat) (es : List Ent) (h : Sl dEnt All w a n c es) (hn : n ≤ 1048576) :
    Ret Try.prog 13 #[.agg #[.slice a n c]] w fun v w' => v = .bool (rightM es) ∧ Ext w w' := by
  refine Ret_of (l := [_]) Try.func13 rfl Try.ntmps13 (by simp) ?_
  have hs := St.init w
  obtain ⟨rs, hr, hm⟩ := Sl.raw (D := rawEnt) h
  have hl := hr.len
  have hle := h.len
  have hcap := h.le
  repeat' (first
    | (apply JL_nil)
    | ((apply JL_pure); (apply as_assign; exact OpR_assign rfl is_rfl); first | (exact rfl; exact rfl) | exact rfl)
    | (apply J_seq)
    | (apply J_region)
    | (apply J_block)
    | (apply al_none (t := 1); refine JL_o (by apply as_box; exact OpR_box' hs rfl) rfl rfl ?_; rintro _ _ ⟨b1, rfl, hb1, hs, hE⟩))
  refine J_loopK (α := Nat × Nat) [(1, _)] (fun g => [(3, .int .i64 g.1)]) (fun g w' => St w NoF w' [Blk b1 (.cells #[.slice a n c] 24 (0, 0))] ∧ g.1 = 8 * 2 ^ g.2 ∧ (g.2 = 0 ∨ 8 * 2 ^ (g.2 - 1) < n)) (fun g => n - g.1) (8, 0) ⟨hs, rfl, .inl rfl⟩ (by repeat' (first | exact trivial | exact rfl | apply And.intro)) ?_
  rintro ⟨N, j⟩ w' ⟨hs1, hN, hlo⟩ ih
  dsimp only at hN hlo ih ⊢
  have hs : St w NoF w' [_] := hs1
  have hN8 : 8 ≤ N := by have hp : 0 < 2 ^ j := Nat.pow_pos (by decide); omega
  by_cases hlt : N < n
  · repeat' (first
      | (apply JL_nil)
      | ((apply JL_pure); (first
      | (apply as_move; exact OpR_move rfl is_rfl)
      | (apply as_assign; exact OpR_assign rfl is_rfl)
      | (apply as_fieldAddr; exact OpR_fieldAddr0 rfl rfl is_rfl)
      | (apply as_load; exact OpR_load' hs rfl rfl is_rfl)
      | (apply as_binOp; first | exact OpR_mul rfl rfl (by omega) is_rfl | exact OpR_ibin rfl rfl rfl is_rfl)
      | (apply as_b_len; exact OpR_len rfl is_rfl)); first | (exact rfl; exact rfl) | exact rfl)
      | (apply J_seq)
      | (apply J_region)
      | (apply J_block)
      | (apply J_inBlock)
      | (apply J_skip)
      | (apply aj_cond; refine J_dec_t rfl ob ?_))
    have e : (2 : Int) * (N : Int) = ((2 * N : Nat) : Int) := by omega
    refine ih (2 * N, j + 1) _ _ ⟨hs, by dsimp only; rw [hN, Nat.pow_succ]; omega, .inr (by dsimp only; rw [Nat.add_sub_cancel, ← hN]; exact hlt)⟩ (by dsimp only; omega) (by rw [e]; repeat' (first | exact trivial | exact rfl | apply And.intro))
  have hpw := powB_dbl (n := n) hN hlo (by omega)
  unfold rightM
  rw [hle, hpw]
  by_cases hnN : n = N
  · rw [decide_eq_true hnN, Bool.true_and]
    repeat' (first
      | (apply JL_nil)
      | ((apply JL_pure); (first
      | (apply as_move; exact OpR_move rfl is_rfl)
      | (apply as_assign; exact OpR_assign rfl is_rfl)
      | (apply as_fieldAddr; exact OpR_fieldAddr0 rfl rfl is_rfl)
      | (apply as_load; exact OpR_load' hs rfl rfl is_rfl)
      | (apply as_binOp; exact OpR_ibin rfl rfl rfl is_rfl)
      | (apply as_b_len; exact OpR_len rfl is_rfl)); first | (exact rfl; exact rfl) | exact rfl)
      | (apply J_seq)
      | (apply J_region)
      | (apply J_block)
      | (apply aj_exit; refine J_exit rfl ?_)
      | (apply J_skip)
      | (apply aj_cond; refine J_dec_f rfl ob ?_))
    refine J_loopK (α := Nat) [(1, _), (3, _), (22, _), (23, _)] (fun k => [(4, .int .i64 (cntN es k)), (24, .int .i64 k)]) (fun k w' => St w NoF w' [Blk b1 (.cells #[.slice a n c] 24 (0, 0))] ∧ k ≤ n ∧ okR es k = true) (fun k => n - k) 0 ⟨hs, by omega, rfl⟩ (by repeat' (first | exact trivial | exact rfl | apply And.intro)) ?_
    rintro k w2 ⟨hs1, hk, hok⟩ ih
    have hs : St w NoF w2 [_] := hs1
    have hck := cntN_le es k
    by_cases hlt : k < n
    · obtain ⟨p, o, rfl⟩ := hr.sl.addr (by omega)
      have hx : es[k]? = some es[k] := List.getElem?_eq_getElem (by omega)
      obtain ⟨x, hxd⟩ : ∃ x, x = es[k] := ⟨_, rfl⟩
      rw [← hxd] at hx
      obtain ⟨r, hrx, hrel⟩ := hm.get hx
      have e1 : r.1 = x.1 := hrel.1
      have e3 : r.2.2 = x.2.2 := hrel.2.2
      have m2 : Sl (tInt .u64) All w r.2.1.1 r.2.1.2.1 r.2.1.2.2 x.2.1 := hrel.2.1
      have htn := m2.len
      have hsl : slotR es k = if x.1 = 0 ∨ x.1 = 2 then decide (x.2.1.length = 0) && decide (x.2.2 = 0) else if x.1 = 1 then typeB x.2.1 && (decide (0 ≤ x.2.2) && (foundM es x.2.1 k && (List.range k).all (fun j => !(decide ((es.getD j e0).1 = 1) && decide (x.2.1 = (es.getD j e0).2.1))))) else false := by unfold slotR; rw [getD_ent hx]
      have hcs := cntN_succ hx
      have hbad : slotR es k = false → (okR es n && (decide (4 * cntN es n ≤ 3 * n) && decide (cntN es n ≤ 4000))) = false := fun hf => by rw [okR_false hlt hf, Bool.false_and]
      have hgood : slotR es k = true → okR es (k + 1) = true := fun hf => by rw [okR_succ, hok, hf]; rfl
      by_cases s0 : r.1 = 0
      · rw [if_pos (.inl (by omega))] at hsl
        rw [if_pos (by omega), Nat.add_zero] at hcs
        by_cases q1 : r.2.1.2.1 = 0
        · by_cases q2 : r.2.2 = 0
          · have hg := hgood (by rw [hsl, decide_eq_true (by omega), decide_eq_true (by omega)]; rfl)
            repeat' (first
              | (apply JL_nil)
              | ((first | (apply JL_pure) | (apply JL_pure_on; exact rfl; exact gb)); (first
      | (apply as_load; first | exact OpR_load' hs rfl rfl is_rfl | exact OpR_load_agg' hs rfl is_rfl | exact OpR_load_el (hr.st hs) hrx rfl rfl is_rfl)
      | (apply as_move; exact OpR_move rfl is_rfl)
      | (apply as_assign; exact OpR_assign rfl is_rfl)
      | (apply as_fieldAddr; exact OpR_fieldAddr0 rfl rfl is_rfl)
      | (apply as_add; exact OpR_addn rfl rfl (by omega) (by first | (simp only [Int.reduceAdd]; exact rfl) | exact rfl) is_rfl)
      | (apply as_binOp; exact OpR_ibin rfl rfl rfl is_rfl)
      | (apply as_pick; exact OpR_pick_f rfl gb rfl is_rfl)
      | (apply as_b_len; exact OpR_len rfl is_rfl)
      | (apply as_indexAddr; exact OpR_indexAddr rfl rfl (by omega) (by omega) is_rfl)); first | (exact rfl; exact rfl) | exact rfl)
              | (apply J_seq)
              | (apply J_region)
              | (apply J_block)
              | (apply J_inBlock)
              | (apply J_skip)
              | (apply al_none (t := 6); refine JL_o (by apply as_alloc; exact OpR_alloc' hs) rfl rfl ?_; rintro _ _ ⟨b6, rfl, hb6, hs, hE⟩)
              | (apply al_unit; refine JL_u (by apply as_store; exact OpR_store' hs rfl rfl rfl) rfl ?_; rintro _ _ ⟨hs, hF⟩)
              | (apply aj_cond; first | refine J_dec_t rfl ob ?_ | refine J_dec_f rfl ob ?_))
            refine ih (k + 1) _ _ ⟨hs.sel [1] (by decide), by omega, hg⟩ (by omega) (by rw [hcs]; repeat' (first | exact trivial | exact rfl | apply And.intro))
          · rw [hbad (by rw [hsl, decide_eq_false (by omega : ¬ x.2.2 = 0), Bool.and_false])]
            repeat' (first
              | (apply JL_nil)
              | ((first | (apply JL_pure) | (apply JL_pure_on; exact rfl; exact gb)); (first
      | (apply as_load; first | exact OpR_load' hs rfl rfl is_rfl | exact OpR_load_agg' hs rfl is_rfl | exact OpR_load_el (hr.st hs) hrx rfl rfl is_rfl)
      | (apply as_move; exact OpR_move rfl is_rfl)
      | (apply as_assign; exact OpR_assign rfl is_rfl)
      | (apply as_fieldAddr; exact OpR_fieldAddr0 rfl rfl is_rfl)
      | (apply as_binOp; exact OpR_ibin rfl rfl rfl is_rfl)
      | (apply as_pick; exact OpR_pick_f rfl gb rfl is_rfl)
      | (apply as_b_len; exact OpR_len rfl is_rfl)
      | (apply as_indexAddr; exact OpR_indexAddr rfl rfl (by omega) (by omega) is_rfl)); first | (exact rfl; exact rfl) | exact rfl)
              | (apply J_seq)
              | (apply J_region)
              | (apply J_block)
              | (apply J_skip)
              | (apply al_none (t := 6); refine JL_o (by apply as_alloc; exact OpR_alloc' hs) rfl rfl ?_; rintro _ _ ⟨b6, rfl, hb6, hs, hE⟩)
              | (apply al_unit; refine JL_u (by apply as_store; exact OpR_store' hs rfl rfl rfl) rfl ?_; rintro _ _ ⟨hs, hF⟩)
              | (apply aj_cond; refine J_dec_t rfl ob ?_))
            refine J_leave Try.func13 rfl (.tmp rfl .nil) ⟨rfl, hs.frm.ext⟩
        · rw [hbad (by rw [hsl, decide_eq_false (by omega : ¬ x.2.1.length = 0), Bool.false_and])]
          have q1' : r.2.1.2.1 > 0 := by omega
          repeat' (first
            | (apply JL_nil)
            | ((apply JL_pure); (first
      | (apply as_load; first | exact OpR_load' hs rfl rfl is_rfl | exact OpR_load_agg' hs rfl is_rfl | exact OpR_load_el (hr.st hs) hrx rfl rfl is_rfl)
      | (apply as_move; exact OpR_move rfl is_rfl)
      | (apply as_assign; exact OpR_assign rfl is_rfl)
      | (apply as_fieldAddr; exact OpR_fieldAddr0 rfl rfl is_rfl)
      | (apply as_binOp; exact OpR_ibin rfl rfl rfl is_rfl)
      | (apply as_pick; exact OpR_pick_t rfl gb rfl is_rfl)
      | (apply as_b_len; exact OpR_len rfl is_rfl)
      | (apply as_indexAddr; exact OpR_indexAddr rfl rfl (by omega) (by omega) is_rfl)); first | (exact rfl; exact rfl) | exact rfl)
            | (apply J_seq)
            | (apply J_region)
            | (apply J_block)
            | (apply J_skip)
            | (apply al_none (t := 6); refine JL_o (by apply as_alloc; exact OpR_alloc' hs) rfl rfl ?_; rintro _ _ ⟨b6, rfl, hb6, hs, hE⟩)
            | (apply al_unit; refine JL_u (by apply as_store; exact OpR_store' hs rfl rfl rfl) rfl ?_; rintro _ _ ⟨hs, hF⟩)
            | (apply al_guard; (refine JL_no rfl gb rfl ?_))
            | (apply aj_cond; first | refine J_dec_t rfl ob ?_ | refine J_cond_t rfl gb ?_))
          refine J_leave Try.func13 rfl (.tmp rfl .nil) ⟨rfl, hs.frm.ext⟩
      by_cases s2 : r.1 = 2
      · rw [if_pos (.inr (by omega))] at hsl
        rw [if_neg (by omega)] at hcs
        by_cases q1 : r.2.1.2.1 = 0
        · by_cases q2 : r.2.2 = 0
          · have hg := hgood (by rw [hsl, decide_eq_true (by omega), decide_eq_true (by omega)]; rfl)
            repeat' (first
              | (apply JL_nil)
              | ((first | (apply JL_pure) | (apply JL_pure_on; exact rfl; exact gb)); (first
      | (apply as_load; first | exact OpR_load' hs rfl rfl is_rfl | exact OpR_load_agg' hs rfl is_rfl | exact OpR_load_el (hr.st hs) hrx rfl rfl is_rfl)
      | (apply as_move; exact OpR_move rfl is_rfl)
      | (apply as_assign; exact OpR_assign rfl is_rfl)
      | (apply as_fieldAddr; exact OpR_fieldAddr0 rfl rfl is_rfl)
      | (apply as_add; exact OpR_addn rfl rfl (by omega) (by first | (simp only [Int.reduceAdd]; exact rfl) | exact rfl) is_rfl)
      | (apply as_binOp; exact OpR_ibin rfl rfl rfl is_rfl)
      | (apply as_pick; exact OpR_pick_f rfl gb rfl is_rfl)
      | (apply as_b_len; exact OpR_len rfl is_rfl)
      | (apply as_indexAddr; exact OpR_indexAddr rfl rfl (by omega) (by omega) is_rfl)); first | (exact rfl; exact rfl) | exact rfl)
              | (apply J_seq)
              | (apply J_region)
              | (apply J_block)
              | (apply J_inBlock)
              | (apply J_skip)
              | (apply al_none (t := 6); refine JL_o (by apply as_alloc; exact OpR_alloc' hs) rfl rfl ?_; rintro _ _ ⟨b6, rfl, hb6, hs, hE⟩)
              | (apply al_unit; refine JL_u (by apply as_store; exact OpR_store' hs rfl rfl rfl) rfl ?_; rintro _ _ ⟨hs, hF⟩)
              | (apply aj_cond; first | refine J_dec_t rfl ob ?_ | refine J_dec_f rfl ob ?_))
            refine ih (k + 1) _ _ ⟨hs.sel [1] (by decide), by omega, hg⟩ (by omega) (by rw [hcs]; repeat' (first | exact trivial | exact rfl | apply And.intro))
          · rw [hbad (by rw [hsl, decide_eq_false (by omega : ¬ x.2.2 = 0), Bool.and_false])]
            repeat' (first
              | (apply JL_nil)
              | ((first | (apply JL_pure) | (apply JL_pure_on; exact rfl; exact gb)); (first
      | (apply as_load; first | exact OpR_load' hs rfl rfl is_rfl | exact OpR_load_agg' hs rfl is_rfl | exact OpR_load_el (hr.st hs) hrx rfl rfl is_rfl)
      | (apply as_move; exact OpR_move rfl is_rfl)
      | (apply as_assign; exact OpR_assign rfl is_rfl)
      | (apply as_fieldAddr; exact OpR_fieldAddr0 rfl rfl is_rfl)
      | (apply as_binOp; exact OpR_ibin rfl rfl rfl is_rfl)
      | (apply as_pick; exact OpR_pick_f rfl gb rfl is_rfl)
      | (apply as_b_len; exact OpR_len rfl is_rfl)
      | (apply as_indexAddr; exact OpR_indexAddr rfl rfl (by omega) (by omega) is_rfl)); first | (exact rfl; exact rfl) | exact rfl)
              | (apply J_seq)
              | (apply J_region)
              | (apply J_block)
              | (apply J_skip)
              | (apply al_none (t := 6); refine JL_o (by apply as_alloc; exact OpR_alloc' hs) rfl rfl ?_; rintro _ _ ⟨b6, rfl, hb6, hs, hE⟩)
              | (apply al_unit; refine JL_u (by apply as_store; exact OpR_store' hs rfl rfl rfl) rfl ?_; rintro _ _ ⟨hs, hF⟩)
              | (apply aj_cond; first | refine J_dec_t rfl ob ?_ | refine J_dec_f rfl ob ?_))
            refine J_leave Try.func13 rfl (.tmp rfl .nil) ⟨rfl, hs.frm.ext⟩
        · rw [hbad (by rw [hsl, decide_eq_false (by omega : ¬ x.2.1.length = 0), Bool.false_and])]
          have q1' : r.2.1.2.1 > 0 := by omega
          repeat' (first
            | (apply JL_nil)
            | ((apply JL_pure); (first
      | (apply as_load; first | exact OpR_load' hs rfl rfl is_rfl | exact OpR_load_agg' hs rfl is_rfl | exact OpR_load_el (hr.st hs) hrx rfl rfl is_rfl)
      | (apply as_move; exact OpR_move rfl is_rfl)
      | (apply as_assign; exact OpR_assign rfl is_rfl)
      | (apply as_fieldAddr; exact OpR_fieldAddr0 rfl rfl is_rfl)
      | (apply as_binOp; exact OpR_ibin rfl rfl rfl is_rfl)
      | (apply as_pick; exact OpR_pick_t rfl gb rfl is_rfl)
      | (apply as_b_len; exact OpR_len rfl is_rfl)
      | (apply as_indexAddr; exact OpR_indexAddr rfl rfl (by omega) (by omega) is_rfl)); first | (exact rfl; exact rfl) | exact rfl)
            | (apply J_seq)
            | (apply J_region)
            | (apply J_block)
            | (apply J_skip)
            | (apply al_none (t := 6); refine JL_o (by apply as_alloc; exact OpR_alloc' hs) rfl rfl ?_; rintro _ _ ⟨b6, rfl, hb6, hs, hE⟩)
            | (apply al_unit; refine JL_u (by apply as_store; exact OpR_store' hs rfl rfl rfl) rfl ?_; rintro _ _ ⟨hs, hF⟩)
            | (apply al_guard; (refine JL_no rfl gb rfl ?_))
            | (apply aj_cond; first | refine J_dec_t rfl ob ?_ | refine J_dec_f rfl ob ?_ | refine J_cond_t rfl gb ?_))
          refine J_leave Try.func13 rfl (.tmp rfl .nil) ⟨rfl, hs.frm.ext⟩
      rw [if_neg (by omega)] at hsl
      rw [if_neg (by omega)] at hcs
      by_cases s1 : r.1 = 1
      · rw [if_pos (by omega)] at hsl
        cases ht : typeB x.2.1 with
        | false =>
          rw [hbad (by rw [hsl, ht]; rfl)]
          repeat' (first
            | ((apply al_call 25; refine JL_o (by exact OpR_callF en25 rfl (rightR_r _ r.2.1.1 r.2.1.2.1 r.2.1.2.2 x.2.1 (m2.st hs))) rfl rfl ?_; rintro _ _ ⟨rfl, hE⟩; rw [ht]; have hs := hs.ext hE; (try simp only [List.cons_append, List.nil_append] at hs)))
            | (apply JL_nil)
            | ((apply JL_pure); (first
      | (apply as_load; first | exact OpR_load' hs rfl rfl is_rfl | exact OpR_load_agg' hs rfl is_rfl | exact OpR_load_el (hr.st hs) hrx rfl rfl is_rfl)
      | (apply as_move; exact OpR_move rfl is_rfl)
      | (apply as_assign; exact OpR_assign rfl is_rfl)
      | (apply as_fieldAddr; exact OpR_fieldAddr0 rfl rfl is_rfl)
      | (apply as_binOp; exact OpR_ibin rfl rfl rfl is_rfl)
      | (apply as_unOp; exact OpR_not rfl is_rfl)
      | (apply as_pick; exact OpR_pick_t rfl gb rfl is_rfl)
      | (apply as_indexAddr; exact OpR_indexAddr rfl rfl (by omega) (by omega) is_rfl)); first | (exact rfl; exact rfl) | exact rfl)
            | (apply J_seq)
            | (apply J_region)
            | (apply J_block)
            | (apply J_skip)
            | (apply al_none (t := 6); refine JL_o (by apply as_alloc; exact OpR_alloc' hs) rfl rfl ?_; rintro _ _ ⟨b6, rfl, hb6, hs, hE⟩)
            | (apply al_unit; refine JL_u (by apply as_store; exact OpR_store' hs rfl rfl rfl) rfl ?_; rintro _ _ ⟨hs, hF⟩)
            | (apply al_guard; (refine JL_no rfl gb rfl ?_))
            | (apply aj_cond; first | refine J_dec_t rfl ob ?_ | refine J_dec_f rfl ob ?_ | refine J_cond_t rfl gb ?_))
          refine J_leave Try.func13 rfl (.tmp rfl .nil) ⟨rfl, hs.frm.ext⟩
        | true =>
          rw [ht, Bool.true_and] at hsl
          by_cases q2 : 0 ≤ r.2.2
          · rw [decide_eq_true (by omega), Bool.true_and] at hsl
            have q2' : ¬ r.2.2 < 0 := by omega
            cases hfo : foundM es x.2.1 k with
            | false =>
              rw [hbad (by rw [hsl, hfo]; rfl)]
              repeat' (first
                | ((apply al_call 25; refine JL_o (by exact OpR_callF en25 rfl (rightR_r _ r.2.1.1 r.2.1.2.1 r.2.1.2.2 x.2.1 (m2.st hs))) rfl rfl ?_; rintro _ _ ⟨rfl, hE⟩; rw [ht]; have hs := hs.ext hE; (try simp only [List.cons_append, List.nil_append] at hs)))
                | ((apply al_callg 56; refine JL_o_on rfl gb (by exact OpR_callF en56 rfl (foundR_r _ (some ⟨p, o, none⟩) n c es r.2.1.1 r.2.1.2.1 r.2.1.2.2 x.2.1 k (h.st hs) hn (m2.st hs) hlt)) rfl rfl ?_; rintro _ _ ⟨rfl, hE⟩; rw [hfo]; have hs := hs.ext hE; (try simp only [List.cons_append, List.nil_append] at hs)))
                | (apply JL_nil)
                | ((first | (apply JL_pure) | (apply JL_pure_on; exact rfl; exact gb)); (first
      | (apply as_load; first | exact OpR_load' hs rfl rfl is_rfl | exact OpR_load_agg' hs rfl is_rfl | exact OpR_load_el (hr.st hs) hrx rfl rfl is_rfl)
      | (apply as_move; exact OpR_move rfl is_rfl)
      | (apply as_assign; exact OpR_assign rfl is_rfl)
      | (apply as_fieldAddr; exact OpR_fieldAddr0 rfl rfl is_rfl)
      | (apply as_binOp; exact OpR_ibin rfl rfl rfl is_rfl)
      | (apply as_unOp; exact OpR_not rfl is_rfl)
      | (apply as_pick; exact OpR_pick_f rfl gb rfl is_rfl)
      | (apply as_indexAddr; exact OpR_indexAddr rfl rfl (by omega) (by omega) is_rfl)); first | (exact rfl; exact rfl) | exact rfl)
                | (apply J_seq)
                | (apply J_region)
                | (apply J_block)
                | (apply J_skip)
                | (apply al_none (t := 6); refine JL_o (by apply as_alloc; exact OpR_alloc' hs) rfl rfl ?_; rintro _ _ ⟨b6, rfl, hb6, hs, hE⟩)
                | (apply al_unit; refine JL_u (by apply as_store; exact OpR_store' hs rfl rfl rfl) rfl ?_; rintro _ _ ⟨hs, hF⟩)
                | (apply aj_cond; first | refine J_dec_t rfl ob ?_ | refine J_dec_f rfl ob ?_ | refine J_cond_t rfl gb ?_))
              refine J_leave Try.func13 rfl (.tmp rfl .nil) ⟨rfl, hs.frm.ext⟩
            | true =>
              rw [hfo, Bool.true_and] at hsl
              repeat' (first
                | ((apply al_call 25; refine JL_o (by exact OpR_callF en25 rfl (rightR_r _ r.2.1.1 r.2.1.2.1 r.2.1.2.2 x.2.1 (m2.st hs))) rfl rfl ?_; rintro _ _ ⟨rfl, hE⟩; rw [ht]; have hs := hs.ext hE; (try simp only [List.cons_append, List.nil_append] at hs)))
                | ((apply al_callg 56; refine JL_o_on rfl gb (by exact OpR_callF en56 rfl (foundR_r _ (some ⟨p, o, none⟩) n c es r.2.1.1 r.2.1.2.1 r.2.1.2.2 x.2.1 k (h.st hs) hn (m2.st hs) hlt)) rfl rfl ?_; rintro _ _ ⟨rfl, hE⟩; rw [hfo]; have hs := hs.ext hE; (try simp only [List.cons_append, List.nil_append] at hs)))
                | ((apply al_none (t := 65); refine JL_pure (v := .slice (some ⟨p, o, none⟩) k c) (by apply as_slice; exact OpR_slice (kl := .i64) (kh := .i64) (km := .i64) (a' := some ⟨p, o, none⟩) (m := c) (h := (k : Nat)) rfl (.inl ⟨rfl, rfl⟩) (.inr ⟨_, rfl, rfl⟩) (.inl ⟨rfl, rfl⟩) (by omega) (by omega) (by omega) (by omega) (by split; rfl; exact addr0 _) (by rw [Int.sub_zero, Int.sub_zero, Int.toNat_natCast, Int.toNat_natCast]; exact is_rfl)) rfl rfl ?_))
                | (apply JL_nil)
                | ((first | (apply JL_pure) | (apply JL_pure_on; exact rfl; exact gb)); (first
      | (apply as_load; first | exact OpR_load' hs rfl rfl is_rfl | exact OpR_load_agg' hs rfl is_rfl | exact OpR_load_el (hr.st hs) hrx rfl rfl is_rfl)
      | (apply as_move; exact OpR_move rfl is_rfl)
      | (apply as_assign; exact OpR_assign rfl is_rfl)
      | (apply as_fieldAddr; exact OpR_fieldAddr0 rfl rfl is_rfl)
      | (apply as_binOp; exact OpR_ibin rfl rfl rfl is_rfl)
      | (apply as_unOp; exact OpR_not rfl is_rfl)
      | (apply as_pick; exact OpR_pick_f rfl gb rfl is_rfl)
      | (apply as_b_len; exact OpR_len rfl is_rfl)
      | (apply as_indexAddr; exact OpR_indexAddr rfl rfl (by omega) (by omega) is_rfl)); first | (exact rfl; exact rfl) | exact rfl)
                | (apply J_seq)
                | (apply J_region)
                | (apply J_block)
                | (apply J_skip)
                | (apply al_none (t := 6); refine JL_o (by apply as_alloc; exact OpR_alloc' hs) rfl rfl ?_; rintro _ _ ⟨b6, rfl, hb6, hs, hE⟩)
                | (apply al_unit; refine JL_u (by apply as_store; exact OpR_store' hs rfl rfl rfl) rfl ?_; rintro _ _ ⟨hs, hF⟩)
                | (apply aj_cond; first | refine J_dec_t rfl ob ?_ | refine J_dec_f rfl ob ?_ | refine J_cond_f rfl gb ?_))
              obtain ⟨W2, hW2⟩ : ∃ W2 : Bool, W2 = (List.range k).all (fun j => !(decide ((es.getD j e0).1 = 1) && decide (x.2.1 = (es.getD j e0).2.1))) := ⟨_, rfl⟩
              rw [← hW2] at hsl
              refine J_loopK (α := Nat) [(1, _), (3, _), (4, _), (6, _), (22, _), (23, _), (24, _), (65, _), (66, _)] (fun j => [(67, .int .i64 j)]) (fun j w' => St w NoF w' [Blk b6 (.cells #[.int .i64 r.1, .slice r.2.1.1 r.2.1.2.1 r.2.1.2.2, .int .i64 r.2.2] 39 (0, 0)), Blk b1 (.cells #[.slice (some ⟨p, o, none⟩) n c] 24 (0, 0))] ∧ j ≤ k ∧ ∀ q, q < j → ¬ ((es.getD q e0).1 = 1 ∧ x.2.1 = (es.getD q e0).2.1)) (fun j => k - j) 0 ⟨hs, by omega, fun q hq => by omega⟩ (by repeat' (first | exact trivial | exact rfl | apply And.intro)) ?_
              rintro j w3 ⟨hs1, hj, hno⟩ ih2
              have hs : St w NoF w3 [_, _] := hs1
              by_cases hjk : j < k
              · have hy : es[j]? = some es[j] := List.getElem?_eq_getElem (by omega)
                obtain ⟨y, hyd⟩ : ∃ y, y = es[j] := ⟨_, rfl⟩
                rw [← hyd] at hy
                obtain ⟨ry, hry, hrely⟩ := hm.get hy
                have f1 : ry.1 = y.1 := hrely.1
                have my : Sl (tInt .u64) All w ry.2.1.1 ry.2.1.2.1 ry.2.1.2.2 y.2.1 := hrely.2.1
                by_cases g1 : ry.1 = 1
                · by_cases g2 : x.2.1 = y.2.1
                  · have hW : W2 = false := by
                      rw [hW2, List.all_eq_false]
                      exact ⟨j, List.mem_range.2 hjk, by rw [getD_ent hy, decide_eq_true (by omega : y.1 = 1), decide_eq_true g2]; decide⟩
                    rw [hbad (by rw [hsl, hW])]
                    repeat' (first
                      | ((apply al_callg 57; refine JL_o_on rfl gb (by exact OpR_callF en57 rfl (sameR_r _ r.2.1.1 ry.2.1.1 r.2.1.2.1 r.2.1.2.2 ry.2.1.2.1 ry.2.1.2.2 x.2.1 y.2.1 (m2.st hs) (my.st hs))) rfl rfl ?_; rintro _ _ ⟨rfl, hE⟩; rw [decide_eq_true g2]; have hs := hs.ext hE; (try simp only [List.cons_append, List.nil_append] at hs)))
                      | (apply JL_nil)
                      | ((first | (apply JL_pure) | (apply JL_pure_on; exact rfl; exact gb)); (first
      | (apply as_load; first | exact OpR_load' hs rfl rfl is_rfl | exact OpR_load_agg' hs rfl is_rfl | exact OpR_load_el (hr.st hs) hry rfl rfl is_rfl)
      | (apply as_move; exact OpR_move rfl is_rfl)
      | (apply as_assign; exact OpR_assign rfl is_rfl)
      | (apply as_fieldAddr; exact OpR_fieldAddr0 rfl rfl is_rfl)
      | (apply as_binOp; exact OpR_ibin rfl rfl rfl is_rfl)
      | (apply as_pick; exact OpR_pick_t rfl gb rfl is_rfl)
      | (apply as_indexAddr; exact OpR_indexAddr rfl rfl (by omega) (by omega) is_rfl)); first | (exact rfl; exact rfl) | exact rfl)
                      | (apply J_seq)
                      | (apply J_region)
                      | (apply J_block)
                      | (apply J_skip)
                      | (apply al_none (t := 8); refine JL_o (by apply as_alloc; exact OpR_alloc' hs) rfl rfl ?_; rintro _ _ ⟨b8, rfl, hb8, hs, hE⟩)
                      | (apply al_unit; refine JL_u (by apply as_store; exact OpR_store' hs rfl rfl rfl) rfl ?_; rintro _ _ ⟨hs, hF⟩)
                      | (apply aj_cond; first | refine J_dec_t rfl ob ?_ | refine J_cond_t rfl gb ?_))
                    refine J_leave Try.func13 rfl (.tmp rfl .nil) ⟨rfl, hs.frm.ext⟩
                  · repeat' (first
                      | ((apply al_callg 57; refine JL_o_on rfl gb (by exact OpR_callF en57 rfl (sameR_r _ r.2.1.1 ry.2.1.1 r.2.1.2.1 r.2.1.2.2 ry.2.1.2.1 ry.2.1.2.2 x.2.1 y.2.1 (m2.st hs) (my.st hs))) rfl rfl ?_; rintro _ _ ⟨rfl, hE⟩; rw [decide_eq_false g2]; have hs := hs.ext hE; (try simp only [List.cons_append, List.nil_append] at hs)))
                      | (apply JL_nil)
                      | ((first | (apply JL_pure) | (apply JL_pure_on; exact rfl; exact gb)); (first
      | (apply as_load; first | exact OpR_load' hs rfl rfl is_rfl | exact OpR_load_agg' hs rfl is_rfl | exact OpR_load_el (hr.st hs) hry rfl rfl is_rfl)
      | (apply as_move; exact OpR_move rfl is_rfl)
      | (apply as_fieldAddr; exact OpR_fieldAddr0 rfl rfl is_rfl)
      | (apply as_add; exact OpR_addn rfl rfl (by omega) (by first | (simp only [Int.reduceAdd]; exact rfl) | exact rfl) is_rfl)
      | (apply as_binOp; exact OpR_ibin rfl rfl rfl is_rfl)
      | (apply as_pick; exact OpR_pick_t rfl gb rfl is_rfl)
      | (apply as_indexAddr; exact OpR_indexAddr rfl rfl (by omega) (by omega) is_rfl)); first | (exact rfl; exact rfl) | exact rfl)
                      | (apply J_seq)
                      | (apply J_region)
                      | (apply J_block)
                      | (apply J_inBlock)
                      | (apply J_skip)
                      | (apply al_none (t := 8); refine JL_o (by apply as_alloc; exact OpR_alloc' hs) rfl rfl ?_; rintro _ _ ⟨b8, rfl, hb8, hs, hE⟩)
                      | (apply al_unit; refine JL_u (by apply as_store; exact OpR_store' hs rfl rfl rfl) rfl ?_; rintro _ _ ⟨hs, hF⟩)
                      | (apply aj_cond; first | refine J_dec_t rfl ob ?_ | refine J_cond_f rfl gb ?_))
                    refine ih2 (j + 1) _ _ ⟨hs.sel [1, 2] (by decide), by omega, fun q hq => ?_⟩ (by omega) (by repeat' (first | exact trivial | exact rfl | apply And.intro))
                    rcases Nat.lt_or_ge q j with c | c
                    · exact hno q c
                    · have : q = j := by omega
                      subst this; rw [getD_ent hy]; exact fun z => g2 z.2
                · repeat' (first
                    | (apply JL_nil)
                    | ((apply JL_pure); (first
      | (apply as_load; first | exact OpR_load' hs rfl rfl is_rfl | exact OpR_load_agg' hs rfl is_rfl | exact OpR_load_el (hr.st hs) hry rfl rfl is_rfl)
      | (apply as_move; exact OpR_move rfl is_rfl)
      | (apply as_fieldAddr; exact OpR_fieldAddr0 rfl rfl is_rfl)
      | (apply as_add; exact OpR_addn rfl rfl (by omega) (by first | (simp only [Int.reduceAdd]; exact rfl) | exact rfl) is_rfl)
      | (apply as_binOp; exact OpR_ibin rfl rfl rfl is_rfl)
      | (apply as_pick; exact OpR_pick_f rfl gb rfl is_rfl)
      | (apply as_indexAddr; exact OpR_indexAddr rfl rfl (by omega) (by omega) is_rfl)); first | (exact rfl; exact rfl) | exact rfl)
                    | (apply J_seq)
                    | (apply J_region)
                    | (apply J_block)
                    | (apply J_inBlock)
                    | (apply J_skip)
                    | (apply al_none (t := 8); refine JL_o (by apply as_alloc; exact OpR_alloc' hs) rfl rfl ?_; rintro _ _ ⟨b8, rfl, hb8, hs, hE⟩)
                    | (apply al_unit; refine JL_u (by apply as_store; exact OpR_store' hs rfl rfl rfl) rfl ?_; rintro _ _ ⟨hs, hF⟩)
                    | (apply al_guard; (refine JL_no rfl gb rfl ?_))
                    | (apply aj_cond; first | refine J_dec_t rfl ob ?_ | refine J_cond_f rfl gb ?_))
                  refine ih2 (j + 1) _ _ ⟨hs.sel [1, 2] (by decide), by omega, fun q hq => ?_⟩ (by omega) (by repeat' (first | exact trivial | exact rfl | apply And.intro))
                  rcases Nat.lt_or_ge q j with c | c
                  · exact hno q c
                  · have : q = j := by omega
                    subst this; rw [getD_ent hy]; exact fun z => g1 (by omega)
              · have hjk : j = k := by omega
                subst hjk
                have hW : W2 = true := by
                  rw [hW2, List.all_eq_true]
                  intro q hq
                  have := hno q (List.mem_range.1 hq)
                  by_cases c1 : (es.getD q e0).1 = 1
                  · rw [decide_eq_false (fun z => this ⟨c1, z⟩)]; simp
                  · rw [decide_eq_false c1]; rfl
                have hg := hgood (by rw [hsl, hW])
                repeat' (first
                  | (apply JL_nil)
                  | ((apply JL_pure); (first
      | (apply as_load; first | exact OpR_load' hs rfl rfl is_rfl | exact OpR_load_agg' hs rfl is_rfl)
      | (apply as_move; exact OpR_move rfl is_rfl)
      | (apply as_assign; exact OpR_assign rfl is_rfl)
      | (apply as_fieldAddr; exact OpR_fieldAddr0 rfl rfl is_rfl)
      | (apply as_add; exact OpR_addn rfl rfl (by omega) (by first | (simp only [Int.reduceAdd]; exact rfl) | exact rfl) is_rfl)
      | (apply as_binOp; exact OpR_ibin rfl rfl rfl is_rfl)); first | (exact rfl; exact rfl) | exact rfl)
                  | (apply J_seq)
                  | (apply J_region)
                  | (apply J_inBlock)
                  | (apply aj_exit; refine J_exit rfl ?_)
                  | (apply aj_cond; first | refine J_dec_t rfl ob ?_ | refine J_dec_f rfl ob ?_))
                refine ih (j + 1) _ _ ⟨hs.sel [1] (by decide), by omega, hg⟩ (by omega) (by rw [hcs]; repeat' (first | exact trivial | exact rfl | apply And.intro))
          · rw [hbad (by rw [hsl, decide_eq_false (by omega)]; rfl)]
            have q2' : r.2.2 < 0 := by omega
            repeat' (first
              | ((apply al_call 25; refine JL_o (by exact OpR_callF en25 rfl (rightR_r _ r.2.1.1 r.2.1.2.1 r.2.1.2.2 x.2.1 (m2.st hs))) rfl rfl ?_; rintro _ _ ⟨rfl, hE⟩; rw [ht]; have hs := hs.ext hE; (try simp only [List.cons_append, List.nil_append] at hs)))
              | (apply JL_nil)
              | ((first | (apply JL_pure) | (apply JL_pure_on; exact rfl; exact gb)); (first
      | (apply as_load; first | exact OpR_load' hs rfl rfl is_rfl | exact OpR_load_agg' hs rfl is_rfl | exact OpR_load_el (hr.st hs) hrx rfl rfl is_rfl)
      | (apply as_move; exact OpR_move rfl is_rfl)
      | (apply as_assign; exact OpR_assign rfl is_rfl)
      | (apply as_fieldAddr; exact OpR_fieldAddr0 rfl rfl is_rfl)
      | (apply as_binOp; exact OpR_ibin rfl rfl rfl is_rfl)
      | (apply as_unOp; exact OpR_not rfl is_rfl)
      | (apply as_pick; first | exact OpR_pick_t rfl gb rfl is_rfl | exact OpR_pick_f rfl gb rfl is_rfl)
      | (apply as_indexAddr; exact OpR_indexAddr rfl rfl (by omega) (by omega) is_rfl)); first | (exact rfl; exact rfl) | exact rfl)
              | (apply J_seq)
              | (apply J_region)
              | (apply J_block)
              | (apply J_skip)
              | (apply al_none (t := 6); refine JL_o (by apply as_alloc; exact OpR_alloc' hs) rfl rfl ?_; rintro _ _ ⟨b6, rfl, hb6, hs, hE⟩)
              | (apply al_unit; refine JL_u (by apply as_store; exact OpR_store' hs rfl rfl rfl) rfl ?_; rintro _ _ ⟨hs, hF⟩)
              | (apply al_guard; (refine JL_no rfl gb rfl ?_))
              | (apply aj_cond; first | refine J_dec_t rfl ob ?_ | refine J_dec_f rfl ob ?_ | refine J_cond_t rfl gb ?_))
            refine J_leave Try.func13 rfl (.tmp rfl .nil) ⟨rfl, hs.frm.ext⟩
      · rw [if_neg (by omega)] at hsl
        rw [hbad hsl]
        repeat' (first
          | (apply JL_nil)
          | ((apply JL_pure); (first
      | (apply as_load; first | exact OpR_load' hs rfl rfl is_rfl | exact OpR_load_agg' hs rfl is_rfl | exact OpR_load_el (hr.st hs) hrx rfl rfl is_rfl)
      | (apply as_move; exact OpR_move rfl is_rfl)
      | (apply as_assign; exact OpR_assign rfl is_rfl)
      | (apply as_fieldAddr; exact OpR_fieldAddr0 rfl rfl is_rfl)
      | (apply as_binOp; exact OpR_ibin rfl rfl rfl is_rfl)
      | (apply as_indexAddr; exact OpR_indexAddr rfl rfl (by omega) (by omega) is_rfl)); first | (exact rfl; exact rfl) | exact rfl)
          | (apply J_seq)
          | (apply J_region)
          | (apply J_block)
          | (apply J_skip)
          | (apply al_none (t := 6); refine JL_o (by apply as_alloc; exact OpR_alloc' hs) rfl rfl ?_; rintro _ _ ⟨b6, rfl, hb6, hs, hE⟩)
          | (apply al_unit; refine JL_u (by apply as_store; exact OpR_store' hs rfl rfl rfl) rfl ?_; rintro _ _ ⟨hs, hF⟩)
          | (apply aj_cond; first | refine J_dec_t rfl ob ?_ | refine J_dec_f rfl ob ?_))
        refine J_leave Try.func13 rfl (.tmp rfl .nil) ⟨rfl, hs.frm.ext⟩
    · have hkn : k = n := by omega
      rw [hkn] at hok ⊢
      rw [hok, Bool.true_and]
      have hcn := cntN_le es n
      by_cases p4 : 4 * cntN es n ≤ 3 * n
      · by_cases p5 : cntN es n ≤ 4000
        · rw [decide_eq_true p4, decide_eq_true p5]
          repeat' (first
            | (apply JL_nil)
            | ((first | (apply JL_pure) | (apply JL_pure_on; exact rfl; exact gb)); (first
      | (apply as_move; exact OpR_move rfl is_rfl)
      | (apply as_assign; exact OpR_assign rfl is_rfl)
      | (apply as_binOp; first | exact OpR_mul rfl rfl (by omega) is_rfl | exact OpR_ibin rfl rfl rfl is_rfl)
      | (apply as_pick; exact OpR_pick_t rfl gb rfl is_rfl)); first | (exact rfl; exact rfl) | exact rfl)
            | (apply J_seq)
            | (apply J_region)
            | (apply aj_exit; refine J_exit rfl ?_)
            | (apply aj_cond; refine J_dec_f rfl ob ?_))
          refine J_leave Try.func13 rfl (.tmp rfl .nil) ⟨congrArg Value.bool (decide_eq_true (by omega)), hs.frm.ext⟩
        · rw [decide_eq_true p4, decide_eq_false p5]
          repeat' (first
            | (apply JL_nil)
            | ((first | (apply JL_pure) | (apply JL_pure_on; exact rfl; exact gb)); (first
      | (apply as_move; exact OpR_move rfl is_rfl)
      | (apply as_assign; exact OpR_assign rfl is_rfl)
      | (apply as_binOp; first | exact OpR_mul rfl rfl (by omega) is_rfl | exact OpR_ibin rfl rfl rfl is_rfl)
      | (apply as_pick; exact OpR_pick_t rfl gb rfl is_rfl)); first | (exact rfl; exact rfl) | exact rfl)
            | (apply J_seq)
            | (apply J_region)
            | (apply aj_exit; refine J_exit rfl ?_)
            | (apply aj_cond; refine J_dec_f rfl ob ?_))
          refine J_leave Try.func13 rfl (.tmp rfl .nil) ⟨congrArg Value.bool (decide_eq_false (by omega)), hs.frm.ext⟩
      · rw [decide_eq_false p4]
        repeat' (first
          | (apply JL_nil)
          | ((apply JL_pure); (first
      | (apply as_move; exact OpR_move rfl is_rfl)
      | (apply as_assign; exact OpR_assign rfl is_rfl)
      | (apply as_binOp; first | exact OpR_mul rfl rfl (by omega) is_rfl | exact OpR_ibin rfl rfl rfl is_rfl)
      | (apply as_pick; exact OpR_pick_f rfl gb rfl is_rfl)); first | (exact rfl; exact rfl) | exact rfl)
          | (apply J_seq)
          | (apply J_region)
          | (apply aj_exit; refine J_exit rfl ?_)
          | (apply al_guard; (refine JL_no rfl gb rfl ?_))
          | (apply aj_cond; refine J_dec_f rfl ob ?_))
        refine J_leave Try.func13 rfl (.tmp rfl .nil) ⟨rfl, hs.frm.ext⟩
  · rw [decide_eq_false hnN, Bool.false_and]
    repeat' (first
      | (apply JL_nil)
      | ((apply JL_pure); (first
      | (apply as_move; exact OpR_move rfl is_rfl)
      | (apply as_assign; exact OpR_assign rfl is_rfl)
      | (apply as_fieldAddr; exact OpR_fieldAddr0 rfl rfl is_rfl)
      | (apply as_load; exact OpR_load' hs rfl rfl is_rfl)
      | (apply as_binOp; exact OpR_ibin rfl rfl rfl is_rfl)
      | (apply as_b_len; exact OpR_len rfl is_rfl)); first | (exact rfl; exact rfl) | exact rfl)
      | (apply J_seq)
      | (apply J_region)
      | (apply aj_exit; refine J_exit rfl ?_)
      | (apply aj_cond; first | refine J_dec_t rfl ob ?_ | refine J_dec_f rfl ob ?_))
    refine J_leave Try.func13 rfl (.tmp rfl .nil) ⟨rfl, hs.frm.ext⟩
end Go.Eng
/- Lookups: the reference's Right says what Check says. -/
namespace Go.Eng
set_option linter.unusedSimpArgs false
set_option linter.unusedVariables false
theorem okR_iff (es : List Ent) (k : Nat) : okR es k = true ↔ ∀ i, i < k → slotR es i = true := by
  unfold okR; rw [List.all_eq_true]; simp
theorem cnt_taken : ∀ (es : List Ent), stOk es = true → (es.filter (fun x => decide (x.1 ≠ 0))).length = taken es
  | [], _ => rfl
  | x :: es, h => by
    unfold stOk at h
    rw [List.all_cons, Bool.and_eq_true, decide_eq_true_eq] at h
    have ih := cnt_taken es h.2
    have hx := h.1
    unfold taken cnt at ih ⊢
    have h3 : x.1 = 0 ∨ x.1 = 1 ∨ x.1 = 2 := by omega
    rcases h3 with e | e | e <;> simp [e] at ih ⊢ <;> omega
theorem right_check (es : List Ent) : rightM es = checkB es := by
  have key : okR es es.length = true ↔ stOk es = true ∧ okK es es.length = true := by
    rw [okR_iff, okK_iff]
    constructor
    · intro h
      have hst : ∀ (i : Nat) (x : Ent), es[i]? = some x → (x.1 = 0 ∨ x.1 = 1 ∨ x.1 = 2) := by
        intro i x hx
        have hs := h i (List.getElem?_eq_some_iff.1 hx).1
        unfold slotR at hs
        rw [getD_ent hx] at hs
        by_cases c : x.1 = 0 ∨ x.1 = 2
        · omega
        · rw [if_neg c] at hs
          by_cases c1 : x.1 = 1
          · omega
          · rw [if_neg c1] at hs; cases hs
      have hdup : ∀ (i j : Nat) (x y : Ent), j < i → es[i]? = some x → es[j]? = some y → x.1 = 1 → y.1 = 1 → x.2.1 ≠ y.2.1 := by
        intro i j x y hji hx hy hx1 hy1 e
        have hs := h i (List.getElem?_eq_some_iff.1 hx).1
        unfold slotR at hs
        rw [getD_ent hx, if_neg (by omega), if_pos hx1] at hs
        simp only [Bool.and_eq_true] at hs
        have := List.all_eq_true.1 hs.2.2.2 j (List.mem_range.2 hji)
        rw [getD_ent hy, decide_eq_true hy1, decide_eq_true e] at this
        cases this
      refine ⟨?_, fun i hi => ?_⟩
      · unfold stOk
        rw [List.all_eq_true]
        intro x hx
        obtain ⟨i, hi⟩ := List.mem_iff_getElem?.1 hx
        have := hst i x hi
        exact decide_eq_true (by omega)
      · have hx : es[i]? = some es[i] := List.getElem?_eq_getElem hi
        obtain ⟨x, hxd⟩ : ∃ x, x = es[i] := ⟨_, rfl⟩
        rw [← hxd] at hx
        have hs := h i hi
        unfold slotR at hs
        unfold slotOk
        rw [getD_ent hx] at hs ⊢
        by_cases c1 : x.1 = 1
        · rw [if_neg (by omega), if_pos c1] at hs
          rw [if_pos c1]
          simp only [Bool.and_eq_true, decide_eq_true_eq] at hs ⊢
          obtain ⟨h1, h2, h3, _⟩ := hs
          refine ⟨h1, h2, ?_⟩
          refine place_of_foundG (fun q hq1 hq2 => ?_) _ _ h3
          by_cases hql : q < es.length
          · have hy : es[q]? = some es[q] := List.getElem?_eq_getElem hql
            rw [getD_ent hy] at hq1 hq2
            rcases Nat.lt_trichotomy q i with c | c | c
            · exact absurd hq2.symm (hdup i q _ _ c hx hy c1 hq1)
            · exact c
            · exact absurd hq2 (hdup q i _ _ c hy hx hq1 c1)
          · exfalso
            have hy : es[q]? = none := List.getElem?_eq_none (by omega)
            rw [List.getD_eq_getElem?_getD, hy] at hq1
            exact absurd hq1 (by decide)
        · rw [if_neg c1]
          have h3 := hst i x hx
          rw [if_pos (by omega)] at hs
          exact hs
    · rintro ⟨hst, h⟩ i hi
      have hx : es[i]? = some es[i] := List.getElem?_eq_getElem hi
      obtain ⟨x, hxd⟩ : ∃ x, x = es[i] := ⟨_, rfl⟩
      rw [← hxd] at hx
      have hs := h i hi
      have hb := of_decide_eq_true (List.all_eq_true.1 hst x (List.mem_of_getElem? hx))
      unfold slotOk at hs
      unfold slotR
      rw [getD_ent hx] at hs ⊢
      by_cases c1 : x.1 = 1
      · rw [if_pos c1] at hs
        rw [if_neg (by omega), if_pos c1]
        simp only [Bool.and_eq_true, decide_eq_true_eq] at hs
        obtain ⟨h1, h2, h3⟩ := hs
        rw [h1, decide_eq_true h2, Bool.true_and, Bool.true_and]
        have hf : foundM es x.2.1 i = true := found_of_placeG _ _ h3
        rw [hf, Bool.true_and, List.all_eq_true]
        intro j hj
        have hji := List.mem_range.1 hj
        have hy : es[j]? = some (es[j]'(by omega)) := List.getElem?_eq_getElem (by omega)
        rw [getD_ent hy]
        by_cases d1 : (es[j]'(by omega)).1 = 1
        · by_cases d2 : x.2.1 = (es[j]'(by omega)).2.1
          · exfalso
            have hs2 := h j (by omega)
            unfold slotOk at hs2
            rw [getD_ent hy, if_pos d1] at hs2
            simp only [Bool.and_eq_true, decide_eq_true_eq] at hs2
            rw [← d2] at hs2
            have := h3.symm.trans hs2.2.2
            omega
          · rw [decide_eq_false d2]; simp
        · rw [decide_eq_false d1]; rfl
      · rw [if_neg c1] at hs
        rw [if_pos (by omega)]
        exact hs
  have hpow : powB es.length = (decide (8 ≤ es.length) && decide (iand (es.length : Int) ((es.length : Int) - 1) = 0)) := rfl
  unfold rightM checkB baseB
  by_cases hst : stOk es = true
  · have hc : cntN es es.length = taken es := by
      unfold cntN; rw [List.take_length]; exact cnt_taken es hst
    have ho : okR es es.length = okK es es.length := by
      rw [Bool.eq_iff_iff, key]
      exact ⟨fun h => h.2, fun h => ⟨hst, h⟩⟩
    rw [hpow, hc, ho, hst, Bool.true_and]
    cases decide (8 ≤ es.length) <;> cases decide (iand (es.length : Int) ((es.length : Int) - 1) = 0) <;> cases okK es es.length <;> cases decide (4 * taken es ≤ 3 * es.length) <;> cases decide (taken es ≤ 4000) <;> rfl
  · have hst' : stOk es = false := by simpa using hst
    have ho : okR es es.length = false := by
      cases h : okR es es.length with
      | false => rfl
      | true => exact absurd (key.1 h).1 hst
    rw [hst', ho]; simp
end Go.Eng
/- Lookups: the reference's With and All. -/
namespace Go.Eng
open Go.Proofs
set_option linter.unusedSimpArgs false
set_option linter.unusedVariables false
abbrev ZE := REnt × Ent
theorem encL_snoc (zs : List ZE) (p : ZE) : encL cREnt (zs.map Prod.fst) ++ cREnt p.1 = encL cREnt ((zs ++ [p]).map Prod.fst) := by
  rw [List.map_append, encL_app]; simp [encL]
theorem MeanV.of_all {R : Nat → Prop} {w : World} {zs : List ZE} (h : ∀ p ∈ zs, mEnt.rel R w p.1 p.2) : MeanV mEnt R w (zs.map Prod.fst) (zs.map Prod.snd) := by
  refine ⟨by simp, fun i c x hc hx => ?_⟩
  rw [List.getElem?_map] at hc hx
  obtain ⟨p, hp, rfl⟩ := Option.map_eq_some_iff.1 hc
  rw [hp] at hx
  cases hx
  exact h p (List.mem_of_getElem? hp)
theorem src_blk3 {w : World} {b e : Nat} {r : REnt} {fz : Nat × Nat} (h : w.heap[b]? = some (.cells #[.int .i64 r.1, .slice r.2.1.1 r.2.1.2.1 r.2.1.2.2, .int .i64 r.2.2] e fz)) : Src w (some ⟨b, 0, none⟩) 1 3 (cREnt r) := by
  refine ⟨rfl, fun h => (nomatch h), fun u hu => ?_, fun b' o hb j u hj => ?_⟩
  · simp only [List.mem_cons, List.not_mem_nil, or_false] at hu
    rcases hu with rfl | rfl | rfl <;> rfl
  · cases hb
    exact cell_blk h (by rw [Nat.zero_add]; exact hj)
theorem withM_at {es : List Ent} {e x : Ent} {k : Nat} (h : ∀ y ∈ es.take k, ¬ cmpL e.2.1 y.2.1 < 0) (hx : es[k]? = some x) (hc : cmpL e.2.1 x.2.1 < 0) : withM es e = es.take k ++ e :: es.drop k := by
  have hk := (List.getElem?_eq_some_iff.1 hx).1
  have hd : es.drop k = x :: es.drop (k + 1) := by
    rw [List.drop_eq_getElem_cons hk, (List.getElem?_eq_some_iff.1 hx).2]
  have hp : ∀ y ∈ es.take k, (fun x : Ent => decide (¬ cmpL e.2.1 x.2.1 < 0)) y = true := fun y hy => decide_eq_true (h y hy)
  have e1 : es.takeWhile (fun x => decide (¬ cmpL e.2.1 x.2.1 < 0)) = es.take k := by
    conv => lhs; rw [← List.take_append_drop k es]
    rw [List.takeWhile_append_of_pos hp, hd, List.takeWhile_cons_of_neg (by simpa using hc), List.append_nil]
  have e2 : es.dropWhile (fun x => decide (¬ cmpL e.2.1 x.2.1 < 0)) = es.drop k := by
    conv => lhs; rw [← List.take_append_drop k es]
    rw [List.dropWhile_append_of_pos hp, hd, List.dropWhile_cons_of_neg (by simpa using hc)]
  unfold withM; rw [e1, e2]
theorem withM_end {es : List Ent} {e : Ent} (h : ∀ y ∈ es, ¬ cmpL e.2.1 y.2.1 < 0) : withM es e = es ++ [e] := by
  have hp : ∀ y ∈ es, (fun x : Ent => decide (¬ cmpL e.2.1 x.2.1 < 0)) y = true := fun y hy => decide_eq_true (h y hy)
  have e1 := List.takeWhile_append_of_pos (l₂ := []) hp
  have e2 := List.dropWhile_append_of_pos (l₂ := []) hp
  rw [List.append_nil] at e1 e2
  unfold withM; rw [e1, e2]; simp
theorem zip_get {rs : List REnt} {es : List Ent} {k : Nat} {r : REnt} {x : Ent} (hr : rs[k]? = some r) (hx : es[k]? = some x) : (r, x) ∈ rs.zip es := by
  refine List.mem_of_getElem? (i := k) ?_
  rw [List.getElem?_zip_eq_some]; exact ⟨hr, hx⟩
attribute [local irreducible] Hold J JL JD JX JXat OpR OpG Ret RetV Is Blk Row MapC
set_option maxRecDepth 100000
set_option maxHeartbeats 1000000
theorem withR_r (w : World) (a : Option Addr) (n c : Nat) (rs : List REnt) (es : List Ent) (re : REnt) (e : Ent) (hr : Sl dREnt All w a n c rs) (hm : MeanV mEnt All w rs es) (he : mEnt.rel All w re e) (hn : n ≤ 1048576) :
    Ret Try.prog 26 #[.slice a n c, .agg (cREnt re).toArray] w fun v w' => ∃ (zs : List ZE) (a' : Option Addr) (c' : Nat), zs.map Prod.snd = withM es e ∧ (∀ p ∈ zs, p ∈ rs.zip es ∨ p = (re, e)) ∧ v = .slice a' (n + 1) c' ∧ Fresh w w' [Row a' (n + 1) c' 39 3 (encL cREnt (zs.map Prod.fst))] := by
  refine Ret_of (l := [_, _]) Try.func26 rfl Try.ntmps26 (by simp) ?_
  have hs := St.init w
  have hl := hr.len
  have hle : es.length = n := by rw [← hm.1]; exact hl
  have me : Sl (tInt .u64) All w re.2.1.1 re.2.1.2.1 re.2.1.2.2 e.2.1 := he.2.1
  repeat' (first
    | (apply JL_nil)
    | ((apply JL_pure); (first
      | (apply as_move; exact OpR_move rfl is_rfl)
      | (apply as_assign; exact OpR_assign rfl is_rfl)
      | (apply as_b_len; exact OpR_len rfl is_rfl)); first | (exact rfl; exact rfl) | exact rfl)
    | (apply J_seq)
    | (apply J_region)
    | (apply J_block)
    | (apply al_none (t := 3); refine JL_o (by apply as_box; exact OpR_box' hs rfl) rfl rfl ?_; rintro _ _ ⟨b3, rfl, hb3, hs, hE⟩))
  have hs := hs.nilRow 39 3
  refine J_loopK (α := Nat × Bool × List ZE × Nat × Option Addr × Nat) [(3, _), (9, _), (10, _)] (fun g => [(5, .slice g.2.2.2.2.1 g.2.2.2.1 g.2.2.2.2.2), (6, .bool g.2.1), (11, .int .i64 g.1)])
    (fun g w' => St w NoF w' [Row g.2.2.2.2.1 g.2.2.2.1 g.2.2.2.2.2 39 3 (encL cREnt (g.2.2.1.map Prod.fst)), Blk b3 (.cells #[.int .i64 re.1, .slice re.2.1.1 re.2.1.2.1 re.2.1.2.2, .int .i64 re.2.2] 39 (0, 0))] ∧ g.1 ≤ n ∧ (∀ p ∈ g.2.2.1, p ∈ rs.zip es ∨ p = (re, e)) ∧
      ((g.2.1 = false ∧ g.2.2.2.1 = g.1 ∧ g.2.2.1.map Prod.snd = es.take g.1 ∧ ∀ x ∈ es.take g.1, ¬ cmpL e.2.1 x.2.1 < 0) ∨ (g.2.1 = true ∧ g.2.2.2.1 = g.1 + 1 ∧ g.2.2.1.map Prod.snd ++ es.drop g.1 = withM es e)))
    (fun g => n - g.1) (0, false, [], 0, none, 0) ⟨hs, by dsimp only; omega, (fun p hp => (by cases hp)), .inl ⟨rfl, rfl, rfl, (fun x hx => (by cases hx))⟩⟩ (by repeat' (first | exact trivial | exact rfl | apply And.intro)) ?_
  rintro ⟨k, put, zs, m, a', c'⟩ w2 ⟨hs1, hk, hz, hP⟩ ih
  dsimp only at hs1 hk hz hP ih ⊢
  have hs : St w NoF w2 [_, _] := hs1
  by_cases hlt : k < n
  · obtain ⟨p, o, rfl⟩ := hr.sl.addr (by omega)
    have hx : es[k]? = some (es[k]'(by omega)) := List.getElem?_eq_getElem (by omega)
    obtain ⟨x, hxd⟩ : ∃ x, x = es[k]'(by omega) := ⟨_, rfl⟩
    rw [← hxd] at hx
    obtain ⟨r, hrx, hrel⟩ := hm.get hx
    have mx : Sl (tInt .u64) All w r.2.1.1 r.2.1.2.1 r.2.1.2.2 x.2.1 := hrel.2.1
    have hzx : (r, x) ∈ rs.zip es := zip_get hrx hx
    have hdr : es.drop k = x :: es.drop (k + 1) := by
      rw [List.drop_eq_getElem_cons (by omega), ← hxd]
    have htk : es.take (k + 1) = es.take k ++ [x] := by rw [List.take_add_one, hx]; rfl
    rcases hP with ⟨rfl, hmk, hmap, hno⟩ | ⟨rfl, hmk, hmap⟩
    · by_cases hc : cmpL e.2.1 x.2.1 < 0
      · have hw := withM_at hno hx hc
        have hcc := encL_snoc zs (re, e)
        have hcc2 := encL_snoc (zs ++ [(re, e)]) (r, x)
        repeat' (first
          | ((apply al_callg 63; refine JL_o_on rfl gb (by exact OpR_callF en63 rfl (compareR_r _ re.2.1.1 r.2.1.1 re.2.1.2.1 re.2.1.2.2 r.2.1.2.1 r.2.1.2.2 e.2.1 x.2.1 (me.st hs) (mx.st hs))) rfl rfl ?_; rintro _ _ ⟨rfl, hE⟩; have hs := hs.ext hE; (try simp only [List.cons_append, List.nil_append] at hs)))
          | ((apply al_none (t := 28); refine JL_o (by apply as_b_append; exact OpR_append (xs := encL cREnt (zs.map Prod.fst)) (news := cREnt re) hs rfl rfl (src_blk3 (hs.blk (b := b27))) plain_blk rfl (by omega) (by unfold maxLen; omega)) rfl rfl ?_; rintro _ _ ⟨a3, c3, rfl, hs, hF, hnil⟩; rw [show encL cREnt (zs.map Prod.fst) ++ cREnt re = encL cREnt ((zs ++ [(re, e)]).map Prod.fst) from hcc] at hs))
          | ((apply al_none (t := 32); refine JL_o (by apply as_b_append; exact OpR_append (xs := encL cREnt ((zs ++ [(re, e)]).map Prod.fst)) (news := cREnt r) hs rfl rfl (src_blk3 (hs.blk (b := b31))) plain_blk rfl (by omega) (by unfold maxLen; omega)) rfl rfl ?_; rintro _ _ ⟨a4, c4, rfl, hs, hF, hnil⟩; rw [show encL cREnt ((zs ++ [(re, e)]).map Prod.fst) ++ cREnt r = encL cREnt (((zs ++ [(re, e)]) ++ [(r, x)]).map Prod.fst) from hcc2] at hs))
          | (apply JL_nil)
          | ((first | (apply JL_pure) | (apply JL_pure_on; exact rfl; exact gb)); (first
      | (apply as_load; first | exact OpR_load' hs rfl rfl is_rfl | exact OpR_load_agg' hs rfl is_rfl | exact OpR_load_el (hr.st hs) hrx rfl rfl is_rfl)
      | (apply as_move; exact OpR_move rfl is_rfl)
      | (apply as_assign; exact OpR_assign rfl is_rfl)
      | (apply as_fieldAddr; exact OpR_fieldAddr0 rfl rfl is_rfl)
      | (apply as_add; exact OpR_addn rfl rfl (by omega) (by first | (simp only [Int.reduceAdd]; exact rfl) | exact rfl) is_rfl)
      | (apply as_binOp; exact OpR_ibin rfl rfl rfl is_rfl)
      | (apply as_unOp; exact OpR_not rfl is_rfl)
      | (apply as_pick; exact OpR_pick_t rfl gb rfl is_rfl)
      | (apply as_indexAddr; exact OpR_indexAddr rfl rfl (by omega) (by omega) is_rfl)); first | (exact rfl; exact rfl) | exact rfl)
          | (apply J_seq)
          | (apply J_region)
          | (apply J_block)
          | (apply J_inBlock)
          | (apply J_skip)
          | (apply al_none (t := 8); refine JL_o (by apply as_alloc; exact OpR_alloc' hs) rfl rfl ?_; rintro _ _ ⟨b8, rfl, hb8, hs, hE⟩)
          | (apply al_none (t := 27); refine JL_o (by apply as_buildSlice; exact OpR_buildSlice hs rfl (by omega) rfl) rfl rfl ?_; rintro _ _ ⟨b27, rfl, hb27, hs, hE⟩)
          | (apply al_none (t := 31); refine JL_o (by apply as_buildSlice; exact OpR_buildSlice hs rfl (by omega) rfl) rfl rfl ?_; rintro _ _ ⟨b31, rfl, hb31, hs, hE⟩)
          | (apply al_unit; refine JL_u (by apply as_store; exact OpR_store' hs rfl rfl rfl) rfl ?_; rintro _ _ ⟨hs, hF⟩)
          | (apply aj_cond; refine J_dec_t rfl ob ?_))
        refine ih (k + 1, true, (zs ++ [(re, e)]) ++ [(r, x)], m + 1 + 1, a4, c4) _ _ ⟨hs.sel [3, 4] (by decide), by dsimp only; omega, ?_, .inr ⟨rfl, by dsimp only; omega, ?_⟩⟩ (by dsimp only; omega) (by repeat' (first | exact trivial | exact rfl | apply And.intro))
        · intro p hp
          rcases List.mem_append.1 hp with hp | hp
          · rcases List.mem_append.1 hp with hp | hp
            · exact hz p hp
            · exact .inr (List.mem_singleton.1 hp)
          · rw [List.mem_singleton.1 hp]; exact .inl hzx
        · dsimp only
          rw [hw, List.map_append, List.map_append, hmap, hdr]; simp
      · have hcc := encL_snoc zs (r, x)
        repeat' (first
          | ((apply al_callg 63; refine JL_o_on rfl gb (by exact OpR_callF en63 rfl (compareR_r _ re.2.1.1 r.2.1.1 re.2.1.2.1 re.2.1.2.2 r.2.1.2.1 r.2.1.2.2 e.2.1 x.2.1 (me.st hs) (mx.st hs))) rfl rfl ?_; rintro _ _ ⟨rfl, hE⟩; have hs := hs.ext hE; (try simp only [List.cons_append, List.nil_append] at hs)))
          | ((apply al_none (t := 32); refine JL_o (by apply as_b_append; exact OpR_append (xs := encL cREnt (zs.map Prod.fst)) (news := cREnt r) hs rfl rfl (src_blk3 (hs.blk (b := b31))) plain_blk rfl (by omega) (by unfold maxLen; omega)) rfl rfl ?_; rintro _ _ ⟨a4, c4, rfl, hs, hF, hnil⟩; rw [show encL cREnt (zs.map Prod.fst) ++ cREnt r = encL cREnt ((zs ++ [(r, x)]).map Prod.fst) from hcc] at hs))
          | (apply JL_nil)
          | ((first | (apply JL_pure) | (apply JL_pure_on; exact rfl; exact gb)); (first
      | (apply as_load; first | exact OpR_load' hs rfl rfl is_rfl | exact OpR_load_agg' hs rfl is_rfl | exact OpR_load_el (hr.st hs) hrx rfl rfl is_rfl)
      | (apply as_move; exact OpR_move rfl is_rfl)
      | (apply as_assign; exact OpR_assign rfl is_rfl)
      | (apply as_fieldAddr; exact OpR_fieldAddr0 rfl rfl is_rfl)
      | (apply as_add; exact OpR_addn rfl rfl (by omega) (by first | (simp only [Int.reduceAdd]; exact rfl) | exact rfl) is_rfl)
      | (apply as_binOp; exact OpR_ibin rfl rfl rfl is_rfl)
      | (apply as_unOp; exact OpR_not rfl is_rfl)
      | (apply as_pick; exact OpR_pick_t rfl gb rfl is_rfl)
      | (apply as_indexAddr; exact OpR_indexAddr rfl rfl (by omega) (by omega) is_rfl)); first | (exact rfl; exact rfl) | exact rfl)
          | (apply J_seq)
          | (apply J_region)
          | (apply J_block)
          | (apply J_inBlock)
          | (apply J_skip)
          | (apply al_none (t := 8); refine JL_o (by apply as_alloc; exact OpR_alloc' hs) rfl rfl ?_; rintro _ _ ⟨b8, rfl, hb8, hs, hE⟩)
          | (apply al_none (t := 31); refine JL_o (by apply as_buildSlice; exact OpR_buildSlice hs rfl (by omega) rfl) rfl rfl ?_; rintro _ _ ⟨b31, rfl, hb31, hs, hE⟩)
          | (apply al_unit; refine JL_u (by apply as_store; exact OpR_store' hs rfl rfl rfl) rfl ?_; rintro _ _ ⟨hs, hF⟩)
          | (apply aj_cond; first | refine J_dec_t rfl ob ?_ | refine J_dec_f rfl ob ?_))
        refine ih (k + 1, false, zs ++ [(r, x)], m + 1, a4, c4) _ _ ⟨hs.sel [2, 3] (by decide), by dsimp only; omega, ?_, .inl ⟨rfl, by dsimp only; omega, ?_, ?_⟩⟩ (by dsimp only; omega) (by repeat' (first | exact trivial | exact rfl | apply And.intro))
        · intro p hp
          rcases List.mem_append.1 hp with hp | hp
          · exact hz p hp
          · rw [List.mem_singleton.1 hp]; exact .inl hzx
        · dsimp only
          rw [List.map_append, hmap, htk]; rfl
        · dsimp only
          intro y hy
          rw [htk] at hy
          rcases List.mem_append.1 hy with hy | hy
          · exact hno y hy
          · rw [List.mem_singleton.1 hy]; exact hc
    · have hcc := encL_snoc zs (r, x)
      repeat' (first
        | ((apply al_none (t := 32); refine JL_o (by apply as_b_append; exact OpR_append (xs := encL cREnt (zs.map Prod.fst)) (news := cREnt r) hs rfl rfl (src_blk3 (hs.blk (b := b31))) plain_blk rfl (by omega) (by unfold maxLen; omega)) rfl rfl ?_; rintro _ _ ⟨a4, c4, rfl, hs, hF, hnil⟩; rw [show encL cREnt (zs.map Prod.fst) ++ cREnt r = encL cREnt ((zs ++ [(r, x)]).map Prod.fst) from hcc] at hs))
        | (apply JL_nil)
        | ((apply JL_pure); (first
      | (apply as_load; first | exact OpR_load' hs rfl rfl is_rfl | exact OpR_load_agg' hs rfl is_rfl | exact OpR_load_el (hr.st hs) hrx rfl rfl is_rfl)
      | (apply as_move; exact OpR_move rfl is_rfl)
      | (apply as_assign; exact OpR_assign rfl is_rfl)
      | (apply as_add; exact OpR_addn rfl rfl (by omega) (by first | (simp only [Int.reduceAdd]; exact rfl) | exact rfl) is_rfl)
      | (apply as_binOp; exact OpR_ibin rfl rfl rfl is_rfl)
      | (apply as_unOp; exact OpR_not rfl is_rfl)
      | (apply as_pick; exact OpR_pick_f rfl gb rfl is_rfl)
      | (apply as_indexAddr; exact OpR_indexAddr rfl rfl (by omega) (by omega) is_rfl)); first | (exact rfl; exact rfl) | exact rfl)
        | (apply J_seq)
        | (apply J_region)
        | (apply J_block)
        | (apply J_inBlock)
        | (apply J_skip)
        | (apply al_none (t := 8); refine JL_o (by apply as_alloc; exact OpR_alloc' hs) rfl rfl ?_; rintro _ _ ⟨b8, rfl, hb8, hs, hE⟩)
        | (apply al_none (t := 31); refine JL_o (by apply as_buildSlice; exact OpR_buildSlice hs rfl (by omega) rfl) rfl rfl ?_; rintro _ _ ⟨b31, rfl, hb31, hs, hE⟩)
        | (apply al_unit; refine JL_u (by apply as_store; exact OpR_store' hs rfl rfl rfl) rfl ?_; rintro _ _ ⟨hs, hF⟩)
        | (apply al_guard; (refine JL_no rfl gb rfl ?_))
        | (apply aj_cond; first | refine J_dec_t rfl ob ?_ | refine J_cond_f rfl gb ?_))
      refine ih (k + 1, true, zs ++ [(r, x)], m + 1, a4, c4) _ _ ⟨hs.sel [2, 3] (by decide), by dsimp only; omega, ?_, .inr ⟨rfl, by dsimp only; omega, ?_⟩⟩ (by dsimp only; omega) (by repeat' (first | exact trivial | exact rfl | apply And.intro))
      · intro p hp
        rcases List.mem_append.1 hp with hp | hp
        · exact hz p hp
        · rw [List.mem_singleton.1 hp]; exact .inl hzx
      · dsimp only
        rw [← hmap, hdr, List.map_append]; simp
  · have hkn : k = n := by omega
    subst hkn
    rcases hP with ⟨rfl, hmk, hmap, hno⟩ | ⟨rfl, hmk, hmap⟩
    · rw [List.take_of_length_le (by omega)] at hmap hno
      have hw := withM_end hno
      have hcc := encL_snoc zs (re, e)
      subst hmk
      repeat' (first
        | ((apply al_none (t := 39); refine JL_o (by apply as_b_append; exact OpR_append (xs := encL cREnt (zs.map Prod.fst)) (news := cREnt re) hs rfl rfl (src_blk3 (hs.blk (b := b38))) plain_blk rfl (by omega) (by unfold maxLen; omega)) rfl rfl ?_; rintro _ _ ⟨a3, c3, rfl, hs, hF, hnil⟩; rw [show encL cREnt (zs.map Prod.fst) ++ cREnt re = encL cREnt ((zs ++ [(re, e)]).map Prod.fst) from hcc] at hs))
        | (apply JL_nil)
        | ((apply JL_pure); (first
      | (apply as_load; first | exact OpR_load' hs rfl rfl is_rfl | exact OpR_load_agg' hs rfl is_rfl)
      | (apply as_move; exact OpR_move rfl is_rfl)
      | (apply as_assign; exact OpR_assign rfl is_rfl)
      | (apply as_binOp; exact OpR_ibin rfl rfl rfl is_rfl)
      | (apply as_unOp; exact OpR_not rfl is_rfl)); first | (exact rfl; exact rfl) | exact rfl)
        | (apply J_seq)
        | (apply J_region)
        | (apply aj_exit; refine J_exit rfl ?_)
        | (apply al_none (t := 38); refine JL_o (by apply as_buildSlice; exact OpR_buildSlice hs rfl (by omega) rfl) rfl rfl ?_; rintro _ _ ⟨b38, rfl, hb38, hs, hE⟩)
        | (apply aj_cond; first | refine J_dec_f rfl ob ?_ | refine J_cond_t rfl gb ?_))
      have hs : St w NoF _ [_, _, _] := hs.sel [1, 0, 2] (by decide)
      refine J_leave Try.func26 rfl (.tmp rfl .nil) ⟨zs ++ [(re, e)], _, _, ?_, ?_, rfl, hs.out (.cons_cons _ (List.nil_sublist _))⟩
      · rw [hw, List.map_append, hmap]; rfl
      · intro p hp
        rcases List.mem_append.1 hp with hp | hp
        · exact hz p hp
        · exact .inr (List.mem_singleton.1 hp)
    · rw [List.drop_of_length_le (by omega), List.append_nil] at hmap
      subst hmk
      repeat' (first
        | (apply JL_nil)
        | ((apply JL_pure); (first
      | (apply as_move; exact OpR_move rfl is_rfl)
      | (apply as_assign; exact OpR_assign rfl is_rfl)
      | (apply as_binOp; exact OpR_ibin rfl rfl rfl is_rfl)
      | (apply as_unOp; exact OpR_not rfl is_rfl)); first | (exact rfl; exact rfl) | exact rfl)
        | (apply J_seq)
        | (apply J_region)
        | (apply aj_exit; refine J_exit rfl ?_)
        | (apply J_skip)
        | (apply aj_cond; first | refine J_dec_f rfl ob ?_ | refine J_cond_f rfl gb ?_))
      refine J_leave Try.func26 rfl (.tmp rfl .nil) ⟨zs, _, _, hmap, hz, rfl, hs.out (.cons_cons _ (List.nil_sublist _))⟩
end Go.Eng
/- Lookups: the reference's All, Find, Same, Without. -/
namespace Go.Eng
open Go.Proofs
set_option linter.unusedSimpArgs false
set_option linter.unusedVariables false
def allK (es : List Ent) (k : Nat) : List Ent := ((es.take k).filter stands).foldl withM []
theorem allK_succ {es : List Ent} {k : Nat} {x : Ent} (hx : es[k]? = some x) : allK es (k + 1) = if x.1 = 1 then withM (allK es k) x else allK es k := by
  unfold allK
  rw [List.take_add_one, hx, List.filter_append, List.foldl_append]
  by_cases h : x.1 = 1
  · rw [if_pos h]; simp [stands, h]
  · rw [if_neg h]; simp [stands, h]
theorem allK_end (es : List Ent) {k : Nat} (h : es.length ≤ k) : allK es k = allM es := by unfold allK allM; rw [List.take_of_length_le h]
theorem zipRel {R : Nat → Prop} {w : World} {rs : List REnt} {es : List Ent} {zs : List ZE} (h : MeanV mEnt R w rs es) (hz : ∀ p ∈ zs, p ∈ rs.zip es) : MeanV mEnt R w (zs.map Prod.fst) (zs.map Prod.snd) := .of_all (fun p hp => h.zip p (hz p hp))
theorem zip_ok {rs : List REnt} {es : List Ent} {zs : List ZE} (hz : ∀ p ∈ zs, p ∈ rs.zip es) (h : ∀ r ∈ rs, okE r) : ∀ r ∈ zs.map Prod.fst, okE r := fun r hr => by
  obtain ⟨p, hp, rfl⟩ := List.mem_map.1 hr
  exact h _ (List.of_mem_zip (hz p hp)).1
theorem rowSl {w : World} {a : Option Addr} {n c e : Nat} {rs : List REnt} (h : RowV w a n c e 3 (encL cREnt rs)) (hok : ∀ r ∈ rs, okE r) : Sl dREnt All w a n c rs := (RowV.slF (d := dREnt) h (by decide) hok).weak (fun _ _ => trivial)
def find7M (xs : List Ent) (t : List Int) : Int := match xs.find? (fun x => decide (x.2.1 = t)) with | some x => x.2.2 | none => -1
def withoutM (xs : List Ent) (t : List Int) : List Ent := xs.filter (fun x => !decide (x.2.1 = t))
attribute [local irreducible] Hold J JL JD JX JXat OpR OpG Ret RetV Is Blk Row MapC
set_option maxRecDepth 100000
set_option maxHeartbeats 1000000
theorem all7_r (w : World) (a : Option Addr) (n c : Nat) (rs : List REnt) (es : List Ent) (hr : Sl dREnt All w a n c rs) (hm : MeanV mEnt All w rs es) (hn : n ≤ 1048576) :
    Ret Try.prog 14 #[.agg #[.slice a n c]] w fun v w' => ∃ (zs : List ZE) (a' : Option Addr) (c' : Nat), zs.map Prod.snd = allM es ∧ (∀ p ∈ zs, p ∈ rs.zip es) ∧ v = .slice a' (allM es).length c' ∧ Fresh w w' [Row a' (allM es).length c' 39 3 (encL cREnt (zs.map Prod.fst))] := by
  refine Ret_of (l := [_]) Try.func14 rfl Try.ntmps14 (by simp) ?_
  have hs := St.init w
  have hl := hr.len
  have hle : es.length = n := by rw [← hm.1]; exact hl
  obtain ⟨_, _, hokr⟩ := hr.srcF
  repeat' (first
    | (apply JL_nil)
    | ((apply JL_pure); (first
      | (apply as_move; exact OpR_move rfl is_rfl)
      | (apply as_assign; exact OpR_assign rfl is_rfl)
      | (apply as_fieldAddr; first | exact OpR_fieldAddr0 rfl rfl is_rfl | exact OpR_fieldAddr rfl rfl is_rfl)
      | (apply as_load; first | exact OpR_load' hs rfl rfl is_rfl | exact OpR_load_agg' hs rfl is_rfl)
      | (apply as_add; first | exact OpR_addn rfl rfl (by omega) (by first | (simp only [Int.reduceAdd]; exact rfl) | exact rfl) is_rfl | exact OpR_addu rfl rfl (by omega) is_rfl | exact OpR_ibin rfl rfl rfl is_rfl)
      | (apply as_binOp; first | exact OpR_ibin rfl rfl rfl is_rfl | exact OpR_beq rfl rfl is_rfl | exact OpR_bne rfl rfl is_rfl | exact OpR_eqNil rfl rfl is_rfl | exact OpR_neNil rfl rfl is_rfl)
      | (apply as_b_len; first | exact OpR_len rfl is_rfl | exact OpR_len_str rfl is_rfl | exact OpR_len_arr rfl is_rfl)
      | (apply as_indexAddr; first | exact OpR_indexAddr rfl rfl (by omega) (by omega) is_rfl | exact OpR_indexAddr_arr' rfl rfl (by omega) (by omega) (by first | (simp only [Int.reduceToNat, Nat.reduceMul, Nat.reduceAdd]; exact rfl) | exact rfl) is_rfl)); first | (exact rfl; exact rfl) | exact rfl)
    | (apply J_seq)
    | (apply J_region)
    | (apply J_block)
    | (apply J_inBlock)
    | (apply aj_exit; refine J_exit rfl ?_)
    | (apply J_skip)
    | (apply al_none (t := 1); refine JL_o (by apply as_box; exact OpR_box' hs rfl) rfl rfl ?_; rintro _ _ ⟨b1, rfl, hb1, hs, hE⟩)
    | (apply al_none (t := 5); refine JL_o (by apply as_alloc; exact OpR_alloc' hs) rfl rfl ?_; rintro _ _ ⟨b5, rfl, hb5, hs, hE⟩)
    | (apply al_unit; refine JL_u (by apply as_store; exact OpR_store' hs rfl rfl rfl) rfl ?_; rintro _ _ ⟨hs, hF⟩)
    | (apply aj_cond; first | refine J_dec_t rfl ob ?_ | refine J_dec_f rfl ob ?_ | refine J_cond_t rfl gb ?_ | refine J_cond_f rfl gb ?_ | (refine J_cond_dec rfl (fun _ => ?_) (fun _ => ?_)) | (refine J_cond rfl (fun _ => ?_) (fun _ => ?_))))
  have hs := hs.nilRow 39 3
  refine J_loopK (α := Nat × List ZE × Nat × Option Addr × Nat) [(7, _), (8, _)] (fun g => [(3, .slice g.2.2.2.1 g.2.2.1 g.2.2.2.2), (9, .int .i64 g.1)])
    (fun g w' => St w NoF w' [Row g.2.2.2.1 g.2.2.1 g.2.2.2.2 39 3 (encL cREnt (g.2.1.map Prod.fst))] ∧ g.1 ≤ n ∧ (∀ p ∈ g.2.1, p ∈ rs.zip es) ∧ g.2.1.map Prod.snd = allK es g.1 ∧ g.2.2.1 = g.2.1.length ∧ g.2.1.length ≤ g.1)
    (fun g => n - g.1) (0, [], 0, none, 0) ⟨hs.sel [0] (by decide), by dsimp only; omega, (fun p hp => (by cases hp)), rfl, rfl, Nat.le_refl _⟩ (by repeat' (first | exact trivial | exact rfl | apply And.intro)) ?_
  rintro ⟨k, zs, m, a', c'⟩ w2 ⟨hs1, hk, hz, hmap, hml, hmk⟩ ih
  dsimp only at hs1 hk hz hmap hml hmk ih ⊢
  by_cases hlt : k < n
  · obtain ⟨p, o, rfl⟩ := hr.sl.addr (by omega)
    have hs : St w NoF w2 [_] := hs1
    have hx : es[k]? = some (es[k]'(by omega)) := List.getElem?_eq_getElem (by omega)
    obtain ⟨x, hxd⟩ : ∃ x, x = es[k]'(by omega) := ⟨_, rfl⟩
    rw [← hxd] at hx
    obtain ⟨r, hrx, hrel⟩ := hm.get hx
    have e1 : r.1 = x.1 := hrel.1
    have hzx : (r, x) ∈ rs.zip es := zip_get hrx hx
    have hak := allK_succ hx
    by_cases h1 : r.1 = 1
    · rw [if_pos (by omega)] at hak
      repeat' (first
        | ((apply al_call 26; refine JL_o (by exact OpR_callF en26 rfl (withR_r _ a' m c' (zs.map Prod.fst) (zs.map Prod.snd) r x (rowSl (hs.row a' m c') (zip_ok hz hokr)) (zipRel (hm.st hs) hz) ((hm.st hs).zip _ hzx) (by omega))) rfl rfl ?_; rintro _ _ ⟨zs3, a3, c3, hw3, hz3, rfl, hf⟩; have hs := hs.fresh hf; (try simp only [List.cons_append, List.nil_append] at hs)))
        | ((apply al_callg 26; refine JL_o_on rfl gb (by exact OpR_callF en26 rfl (withR_r _ a' m c' (zs.map Prod.fst) (zs.map Prod.snd) r x (rowSl (hs.row a' m c') (zip_ok hz hokr)) (zipRel (hm.st hs) hz) ((hm.st hs).zip _ hzx) (by omega))) rfl rfl ?_; rintro _ _ ⟨zs3, a3, c3, hw3, hz3, rfl, hf⟩; have hs := hs.fresh hf; (try simp only [List.cons_append, List.nil_append] at hs)))
        | ((apply ax_c; apply JX_cF 26; exact rfl; (intro W X hN hs; exact OpR_callF en26 rfl (withR_r _ a' m c' (zs.map Prod.fst) (zs.map Prod.snd) r x (rowSl (hs.row a' m c') (zip_ok hz hokr)) (zipRel (hm.st hs) hz) ((hm.st hs).zip _ hzx) (by omega))); (rintro _ _ _ _ ⟨zs3, a3, c3, hw3, hz3, rfl, hf⟩; first | exact hE | exact Fresh.ext hf); rintro W X _ _ hN hs ⟨zs3, a3, c3, hw3, hz3, rfl, hf⟩; have hs := hs.fresh hf; (try simp only [List.cons_append, List.nil_append] at hs); refine JX.at hs ?_))
        | ((apply ax_c; apply JX_cFg 26; exact rfl; exact rfl; exact gb; (intro W X hN hs; exact OpR_callF en26 rfl (withR_r _ a' m c' (zs.map Prod.fst) (zs.map Prod.snd) r x (rowSl (hs.row a' m c') (zip_ok hz hokr)) (zipRel (hm.st hs) hz) ((hm.st hs).zip _ hzx) (by omega))); (rintro _ _ _ _ ⟨zs3, a3, c3, hw3, hz3, rfl, hf⟩; first | exact hE | exact Fresh.ext hf); rintro W X _ _ hN hs ⟨zs3, a3, c3, hw3, hz3, rfl, hf⟩; have hs := hs.fresh hf; (try simp only [List.cons_append, List.nil_append] at hs); refine JX.at hs ?_))
        | (apply JL_nil)
        | ((apply JL_pure); (first
      | (apply as_load; first | exact OpR_load' hs rfl rfl is_rfl | exact OpR_load_agg' hs rfl is_rfl | exact OpR_load_el (hr.st hs) hrx rfl rfl is_rfl)
      | (apply as_move; exact OpR_move rfl is_rfl)
      | (apply as_assign; exact OpR_assign rfl is_rfl)
      | (apply as_fieldAddr; first | exact OpR_fieldAddr0 rfl rfl is_rfl | exact OpR_fieldAddr rfl rfl is_rfl)
      | (apply as_load; first | exact OpR_load' hs rfl rfl is_rfl | exact OpR_load_agg' hs rfl is_rfl)
      | (apply as_add; first | exact OpR_addn rfl rfl (by omega) (by first | (simp only [Int.reduceAdd]; exact rfl) | exact rfl) is_rfl | exact OpR_addu rfl rfl (by omega) is_rfl | exact OpR_ibin rfl rfl rfl is_rfl)
      | (apply as_binOp; first | exact OpR_ibin rfl rfl rfl is_rfl | exact OpR_beq rfl rfl is_rfl | exact OpR_bne rfl rfl is_rfl | exact OpR_eqNil rfl rfl is_rfl | exact OpR_neNil rfl rfl is_rfl)
      | (apply as_b_len; first | exact OpR_len rfl is_rfl | exact OpR_len_str rfl is_rfl | exact OpR_len_arr rfl is_rfl)
      | (apply as_indexAddr; first | exact OpR_indexAddr rfl rfl (by omega) (by omega) is_rfl | exact OpR_indexAddr_arr' rfl rfl (by omega) (by omega) (by first | (simp only [Int.reduceToNat, Nat.reduceMul, Nat.reduceAdd]; exact rfl) | exact rfl) is_rfl)); first | (exact rfl; exact rfl) | exact rfl)
        | (apply J_seq)
        | (apply J_region)
        | (apply J_block)
        | (apply J_inBlock)
        | (apply aj_exit; refine J_exit rfl ?_)
        | (apply J_skip)
        | (apply al_none (t := 1); refine JL_o (by apply as_box; exact OpR_box' hs rfl) rfl rfl ?_; rintro _ _ ⟨b1, rfl, hb1, hs, hE⟩)
        | (apply al_none (t := 5); refine JL_o (by apply as_alloc; exact OpR_alloc' hs) rfl rfl ?_; rintro _ _ ⟨b5, rfl, hb5, hs, hE⟩)
        | (apply al_unit; refine JL_u (by apply as_store; exact OpR_store' hs rfl rfl rfl) rfl ?_; rintro _ _ ⟨hs, hF⟩)
        | (apply aj_cond; first | refine J_dec_t rfl ob ?_ | refine J_dec_f rfl ob ?_ | refine J_cond_t rfl gb ?_ | refine J_cond_f rfl gb ?_ | (refine J_cond_dec rfl (fun _ => ?_) (fun _ => ?_)) | (refine J_cond rfl (fun _ => ?_) (fun _ => ?_))))
      have hmap3 : zs3.map Prod.snd = allK es (k + 1) := by rw [hw3, hmap, hak]
      have hlen3 : zs3.length = m + 1 := by
        have h2 := (withM_perm (zs.map Prod.snd) x).length_eq
        rw [← hw3] at h2
        simp at h2; omega
      refine ih (k + 1, zs3, m + 1, a3, c3) _ _ ⟨hs.sel [0] (by decide), by dsimp only; omega, ?_, hmap3, hlen3.symm, by dsimp only; omega⟩ (by dsimp only; omega) (by repeat' (first | exact trivial | exact rfl | apply And.intro))
      intro q hq
      rcases hz3 q hq with h | h
      · obtain ⟨i, hi⟩ := List.mem_iff_getElem?.1 h
        rw [List.getElem?_zip_eq_some, List.getElem?_map, List.getElem?_map] at hi
        obtain ⟨u, hu, hu1⟩ := Option.map_eq_some_iff.1 hi.1
        obtain ⟨v, hv, hv1⟩ := Option.map_eq_some_iff.1 hi.2
        rw [hu] at hv
        cases hv
        have : q = u := by rw [← Prod.eta q, ← hu1, ← hv1]
        rw [this]; exact hz u (List.mem_of_getElem? hu)
      · rw [h]; exact hzx
    · rw [if_neg (by omega)] at hak
      repeat' (first
        | (apply JL_nil)
        | ((apply JL_pure); (first
      | (apply as_load; first | exact OpR_load' hs rfl rfl is_rfl | exact OpR_load_agg' hs rfl is_rfl | exact OpR_load_el (hr.st hs) hrx rfl rfl is_rfl)
      | (apply as_move; exact OpR_move rfl is_rfl)
      | (apply as_assign; exact OpR_assign rfl is_rfl)
      | (apply as_fieldAddr; first | exact OpR_fieldAddr0 rfl rfl is_rfl | exact OpR_fieldAddr rfl rfl is_rfl)
      | (apply as_load; first | exact OpR_load' hs rfl rfl is_rfl | exact OpR_load_agg' hs rfl is_rfl)
      | (apply as_add; first | exact OpR_addn rfl rfl (by omega) (by first | (simp only [Int.reduceAdd]; exact rfl) | exact rfl) is_rfl | exact OpR_addu rfl rfl (by omega) is_rfl | exact OpR_ibin rfl rfl rfl is_rfl)
      | (apply as_binOp; first | exact OpR_ibin rfl rfl rfl is_rfl | exact OpR_beq rfl rfl is_rfl | exact OpR_bne rfl rfl is_rfl | exact OpR_eqNil rfl rfl is_rfl | exact OpR_neNil rfl rfl is_rfl)
      | (apply as_b_len; first | exact OpR_len rfl is_rfl | exact OpR_len_str rfl is_rfl | exact OpR_len_arr rfl is_rfl)
      | (apply as_indexAddr; first | exact OpR_indexAddr rfl rfl (by omega) (by omega) is_rfl | exact OpR_indexAddr_arr' rfl rfl (by omega) (by omega) (by first | (simp only [Int.reduceToNat, Nat.reduceMul, Nat.reduceAdd]; exact rfl) | exact rfl) is_rfl)); first | (exact rfl; exact rfl) | exact rfl)
        | (apply J_seq)
        | (apply J_region)
        | (apply J_block)
        | (apply J_inBlock)
        | (apply aj_exit; refine J_exit rfl ?_)
        | (apply J_skip)
        | (apply al_none (t := 1); refine JL_o (by apply as_box; exact OpR_box' hs rfl) rfl rfl ?_; rintro _ _ ⟨b1, rfl, hb1, hs, hE⟩)
        | (apply al_none (t := 5); refine JL_o (by apply as_alloc; exact OpR_alloc' hs) rfl rfl ?_; rintro _ _ ⟨b5, rfl, hb5, hs, hE⟩)
        | (apply al_unit; refine JL_u (by apply as_store; exact OpR_store' hs rfl rfl rfl) rfl ?_; rintro _ _ ⟨hs, hF⟩)
        | (apply aj_cond; first | refine J_dec_t rfl ob ?_ | refine J_dec_f rfl ob ?_ | refine J_cond_t rfl gb ?_ | refine J_cond_f rfl gb ?_ | (refine J_cond_dec rfl (fun _ => ?_) (fun _ => ?_)) | (refine J_cond rfl (fun _ => ?_) (fun _ => ?_))))
      refine ih (k + 1, zs, m, a', c') _ _ ⟨hs.sel [1] (by decide), by dsimp only; omega, hz, hmap.trans hak.symm, hml, by dsimp only; omega⟩ (by dsimp only; omega) (by repeat' (first | exact trivial | exact rfl | apply And.intro))
  · have hs : St w NoF w2 [_] := hs1
    rw [allK_end es (by omega)] at hmap
    have hll : (allM es).length = m := by rw [← hmap, List.length_map, hml]
    repeat' (first
      | (apply JL_nil)
      | ((apply JL_pure); (first
      | (apply as_move; exact OpR_move rfl is_rfl)
      | (apply as_assign; exact OpR_assign rfl is_rfl)
      | (apply as_fieldAddr; first | exact OpR_fieldAddr0 rfl rfl is_rfl | exact OpR_fieldAddr rfl rfl is_rfl)
      | (apply as_load; first | exact OpR_load' hs rfl rfl is_rfl | exact OpR_load_agg' hs rfl is_rfl)
      | (apply as_add; first | exact OpR_addn rfl rfl (by omega) (by first | (simp only [Int.reduceAdd]; exact rfl) | exact rfl) is_rfl | exact OpR_addu rfl rfl (by omega) is_rfl | exact OpR_ibin rfl rfl rfl is_rfl)
      | (apply as_binOp; first | exact OpR_ibin rfl rfl rfl is_rfl | exact OpR_beq rfl rfl is_rfl | exact OpR_bne rfl rfl is_rfl | exact OpR_eqNil rfl rfl is_rfl | exact OpR_neNil rfl rfl is_rfl)
      | (apply as_b_len; first | exact OpR_len rfl is_rfl | exact OpR_len_str rfl is_rfl | exact OpR_len_arr rfl is_rfl)
      | (apply as_indexAddr; first | exact OpR_indexAddr rfl rfl (by omega) (by omega) is_rfl | exact OpR_indexAddr_arr' rfl rfl (by omega) (by omega) (by first | (simp only [Int.reduceToNat, Nat.reduceMul, Nat.reduceAdd]; exact rfl) | exact rfl) is_rfl)); first | (exact rfl; exact rfl) | exact rfl)
      | (apply J_seq)
      | (apply J_region)
      | (apply J_block)
      | (apply J_inBlock)
      | (apply aj_exit; refine J_exit rfl ?_)
      | (apply J_skip)
      | (apply al_none (t := 1); refine JL_o (by apply as_box; exact OpR_box' hs rfl) rfl rfl ?_; rintro _ _ ⟨b1, rfl, hb1, hs, hE⟩)
      | (apply al_none (t := 5); refine JL_o (by apply as_alloc; exact OpR_alloc' hs) rfl rfl ?_; rintro _ _ ⟨b5, rfl, hb5, hs, hE⟩)
      | (apply al_unit; refine JL_u (by apply as_store; exact OpR_store' hs rfl rfl rfl) rfl ?_; rintro _ _ ⟨hs, hF⟩)
      | (apply aj_cond; first | refine J_dec_t rfl ob ?_ | refine J_dec_f rfl ob ?_ | refine J_cond_t rfl gb ?_ | refine J_cond_f rfl gb ?_ | (refine J_cond_dec rfl (fun _ => ?_) (fun _ => ?_)) | (refine J_cond rfl (fun _ => ?_) (fun _ => ?_))))
    rw [hll]
    refine J_leave Try.func14 rfl (.tmp rfl .nil) ⟨zs, _, _, hmap, hz, rfl, hs.out (.cons_cons _ (List.nil_sublist _))⟩
theorem find7_r (w : World) (a : Option Addr) (n c : Nat) (es : List Ent) (a2 : Option Addr) (n2 c2 : Nat) (t : List Int) (h : Sl dEnt All w a n c es) (hn : n ≤ 1048576) (h2 : Sl (tInt .u64) All w a2 n2 c2 t) :
    Ret Try.prog 20 #[.slice a n c, .slice a2 n2 c2] w fun v w' => v = .int .i64 (find7M es t) ∧ Ext w w' := by
  refine Ret_of (l := [_, _]) Try.func20 rfl Try.ntmps20 (by simp) ?_
  have hs := St.init w
  obtain ⟨rs, hr, hm⟩ := Sl.raw (D := rawEnt) h
  have hl := hr.len
  have hle := h.len
  repeat' (first
    | (apply JL_nil)
    | ((apply JL_pure); (first
      | (apply as_move; exact OpR_move rfl is_rfl)
      | (apply as_assign; exact OpR_assign rfl is_rfl)
      | (apply as_fieldAddr; first | exact OpR_fieldAddr0 rfl rfl is_rfl | exact OpR_fieldAddr rfl rfl is_rfl)
      | (apply as_load; first | exact OpR_load' hs rfl rfl is_rfl | exact OpR_load_agg' hs rfl is_rfl)
      | (apply as_add; first | exact OpR_addn rfl rfl (by omega) (by first | (simp only [Int.reduceAdd]; exact rfl) | exact rfl) is_rfl | exact OpR_addu rfl rfl (by omega) is_rfl | exact OpR_ibin rfl rfl rfl is_rfl)
      | (apply as_binOp; first | exact OpR_ibin rfl rfl rfl is_rfl | exact OpR_beq rfl rfl is_rfl | exact OpR_bne rfl rfl is_rfl | exact OpR_eqNil rfl rfl is_rfl | exact OpR_neNil rfl rfl is_rfl)
      | (apply as_b_len; first | exact OpR_len rfl is_rfl | exact OpR_len_str rfl is_rfl | exact OpR_len_arr rfl is_rfl)
      | (apply as_indexAddr; first | exact OpR_indexAddr rfl rfl (by omega) (by omega) is_rfl | exact OpR_indexAddr_arr' rfl rfl (by omega) (by omega) (by first | (simp only [Int.reduceToNat, Nat.reduceMul, Nat.reduceAdd]; exact rfl) | exact rfl) is_rfl)); first | (exact rfl; exact rfl) | exact rfl)
    | (apply J_seq)
    | (apply J_region)
    | (apply J_block)
    | (apply J_inBlock)
    | (apply aj_exit; refine J_exit rfl ?_)
    | (apply J_skip)
    | (apply al_none (t := 6); refine JL_o (by apply as_alloc; exact OpR_alloc' hs) rfl rfl ?_; rintro _ _ ⟨b6, rfl, hb6, hs, hE⟩)
    | (apply al_unit; refine JL_u (by apply as_store; exact OpR_store' hs rfl rfl rfl) rfl ?_; rintro _ _ ⟨hs, hF⟩)
    | (apply aj_cond; first | refine J_dec_t rfl ob ?_ | refine J_dec_f rfl ob ?_ | refine J_cond_t rfl gb ?_ | refine J_cond_f rfl gb ?_ | (refine J_cond_dec rfl (fun _ => ?_) (fun _ => ?_)) | (refine J_cond rfl (fun _ => ?_) (fun _ => ?_))))
  refine J_loopK (α := Nat) [(1, _), (7, _), (8, _)] (fun k => [(9, .int .i64 k)]) (fun k w' => St w NoF w' [] ∧ k ≤ n ∧ find7M (es.drop k) t = find7M es t) (fun k => n - k) 0 ⟨hs, by omega, rfl⟩ (by repeat' (first | exact trivial | exact rfl | apply And.intro)) ?_
  rintro k w' ⟨hs1, hk, hG⟩ ih
  have hs : St w NoF w' [] := hs1
  by_cases hlt : k < n
  · obtain ⟨p1, o1, rfl⟩ := hr.sl.addr (by omega)
    have hx : es[k]? = some es[k] := List.getElem?_eq_getElem (by omega)
    obtain ⟨x, hxd⟩ : ∃ x, x = es[k] := ⟨_, rfl⟩
    have hdr : es.drop k = x :: es.drop (k + 1) := by rw [List.drop_eq_getElem_cons (by omega), ← hxd]
    rw [← hxd] at hx
    obtain ⟨r, hrx, hrel⟩ := hm.get hx
    have e3 : r.2.2 = x.2.2 := hrel.2.2
    have mx : Sl (tInt .u64) All w r.2.1.1 r.2.1.2.1 r.2.1.2.2 x.2.1 := hrel.2.1
    by_cases hc : x.2.1 = t
    · have hv : find7M es t = r.2.2 := by rw [← hG, hdr]; unfold find7M; rw [List.find?_cons_of_pos (by simp [hc])]; exact e3.symm
      rw [hv]
      repeat' (first
        | ((apply al_call 57; refine JL_o (by exact OpR_callF en57 rfl (sameR_r _ r.2.1.1 a2 r.2.1.2.1 r.2.1.2.2 n2 c2 x.2.1 t (mx.st hs) (h2.st hs))) rfl rfl ?_; rintro _ _ ⟨rfl, hE⟩; rw [decide_eq_true hc]; have hs := hs.ext hE; (try simp only [List.cons_append, List.nil_append] at hs)))
        | ((apply al_callg 57; refine JL_o_on rfl gb (by exact OpR_callF en57 rfl (sameR_r _ r.2.1.1 a2 r.2.1.2.1 r.2.1.2.2 n2 c2 x.2.1 t (mx.st hs) (h2.st hs))) rfl rfl ?_; rintro _ _ ⟨rfl, hE⟩; rw [decide_eq_true hc]; have hs := hs.ext hE; (try simp only [List.cons_append, List.nil_append] at hs)))
        | ((apply ax_c; apply JX_cF 57; exact rfl; (intro W X hN hs; exact OpR_callF en57 rfl (sameR_r _ r.2.1.1 a2 r.2.1.2.1 r.2.1.2.2 n2 c2 x.2.1 t (mx.st hs) (h2.st hs))); (rintro _ _ _ _ ⟨rfl, hE⟩; first | exact hE | exact Fresh.ext hf); rintro W X _ _ hN hs ⟨rfl, hE⟩; rw [decide_eq_true hc]; have hs := hs.ext hE; (try simp only [List.cons_append, List.nil_append] at hs); refine JX.at hs ?_))
        | ((apply ax_c; apply JX_cFg 57; exact rfl; exact rfl; exact gb; (intro W X hN hs; exact OpR_callF en57 rfl (sameR_r _ r.2.1.1 a2 r.2.1.2.1 r.2.1.2.2 n2 c2 x.2.1 t (mx.st hs) (h2.st hs))); (rintro _ _ _ _ ⟨rfl, hE⟩; first | exact hE | exact Fresh.ext hf); rintro W X _ _ hN hs ⟨rfl, hE⟩; rw [decide_eq_true hc]; have hs := hs.ext hE; (try simp only [List.cons_append, List.nil_append] at hs); refine JX.at hs ?_))
        | (apply JL_nil)
        | ((apply JL_pure); (first
      | (apply as_load; first | exact OpR_load' hs rfl rfl is_rfl | exact OpR_load_agg' hs rfl is_rfl | exact OpR_load_el (hr.st hs) hrx rfl rfl is_rfl)
      | (apply as_move; exact OpR_move rfl is_rfl)
      | (apply as_assign; exact OpR_assign rfl is_rfl)
      | (apply as_fieldAddr; first | exact OpR_fieldAddr0 rfl rfl is_rfl | exact OpR_fieldAddr rfl rfl is_rfl)
      | (apply as_load; first | exact OpR_load' hs rfl rfl is_rfl | exact OpR_load_agg' hs rfl is_rfl)
      | (apply as_add; first | exact OpR_addn rfl rfl (by omega) (by first | (simp only [Int.reduceAdd]; exact rfl) | exact rfl) is_rfl | exact OpR_addu rfl rfl (by omega) is_rfl | exact OpR_ibin rfl rfl rfl is_rfl)
      | (apply as_binOp; first | exact OpR_ibin rfl rfl rfl is_rfl | exact OpR_beq rfl rfl is_rfl | exact OpR_bne rfl rfl is_rfl | exact OpR_eqNil rfl rfl is_rfl | exact OpR_neNil rfl rfl is_rfl)
      | (apply as_b_len; first | exact OpR_len rfl is_rfl | exact OpR_len_str rfl is_rfl | exact OpR_len_arr rfl is_rfl)
      | (apply as_indexAddr; first | exact OpR_indexAddr rfl rfl (by omega) (by omega) is_rfl | exact OpR_indexAddr_arr' rfl rfl (by omega) (by omega) (by first | (simp only [Int.reduceToNat, Nat.reduceMul, Nat.reduceAdd]; exact rfl) | exact rfl) is_rfl)); first | (exact rfl; exact rfl) | exact rfl)
        | (apply J_seq)
        | (apply J_region)
        | (apply J_block)
        | (apply J_inBlock)
        | (apply aj_exit; refine J_exit rfl ?_)
        | (apply J_skip)
        | (apply al_none (t := 6); refine JL_o (by apply as_alloc; exact OpR_alloc' hs) rfl rfl ?_; rintro _ _ ⟨b6, rfl, hb6, hs, hE⟩)
        | (apply al_unit; refine JL_u (by apply as_store; exact OpR_store' hs rfl rfl rfl) rfl ?_; rintro _ _ ⟨hs, hF⟩)
        | (apply aj_cond; first | refine J_dec_t rfl ob ?_ | refine J_dec_f rfl ob ?_ | refine J_cond_t rfl gb ?_ | refine J_cond_f rfl gb ?_ | (refine J_cond_dec rfl (fun _ => ?_) (fun _ => ?_)) | (refine J_cond rfl (fun _ => ?_) (fun _ => ?_))))
      refine J_leave Try.func20 rfl (.tmp rfl .nil) ⟨rfl, hs.frm.ext⟩
    · have hv : find7M (es.drop (k + 1)) t = find7M es t := by rw [← hG, hdr]; unfold find7M; rw [List.find?_cons_of_neg (by simp [hc])]
      repeat' (first
        | ((apply al_call 57; refine JL_o (by exact OpR_callF en57 rfl (sameR_r _ r.2.1.1 a2 r.2.1.2.1 r.2.1.2.2 n2 c2 x.2.1 t (mx.st hs) (h2.st hs))) rfl rfl ?_; rintro _ _ ⟨rfl, hE⟩; rw [decide_eq_false hc]; have hs := hs.ext hE; (try simp only [List.cons_append, List.nil_append] at hs)))
        | ((apply al_callg 57; refine JL_o_on rfl gb (by exact OpR_callF en57 rfl (sameR_r _ r.2.1.1 a2 r.2.1.2.1 r.2.1.2.2 n2 c2 x.2.1 t (mx.st hs) (h2.st hs))) rfl rfl ?_; rintro _ _ ⟨rfl, hE⟩; rw [decide_eq_false hc]; have hs := hs.ext hE; (try simp only [List.cons_append, List.nil_append] at hs)))
        | ((apply ax_c; apply JX_cF 57; exact rfl; (intro W X hN hs; exact OpR_callF en57 rfl (sameR_r _ r.2.1.1 a2 r.2.1.2.1 r.2.1.2.2 n2 c2 x.2.1 t (mx.st hs) (h2.st hs))); (rintro _ _ _ _ ⟨rfl, hE⟩; first | exact hE | exact Fresh.ext hf); rintro W X _ _ hN hs ⟨rfl, hE⟩; rw [decide_eq_false hc]; have hs := hs.ext hE; (try simp only [List.cons_append, List.nil_append] at hs); refine JX.at hs ?_))
        | ((apply ax_c; apply JX_cFg 57; exact rfl; exact rfl; exact gb; (intro W X hN hs; exact OpR_callF en57 rfl (sameR_r _ r.2.1.1 a2 r.2.1.2.1 r.2.1.2.2 n2 c2 x.2.1 t (mx.st hs) (h2.st hs))); (rintro _ _ _ _ ⟨rfl, hE⟩; first | exact hE | exact Fresh.ext hf); rintro W X _ _ hN hs ⟨rfl, hE⟩; rw [decide_eq_false hc]; have hs := hs.ext hE; (try simp only [List.cons_append, List.nil_append] at hs); refine JX.at hs ?_))
        | (apply JL_nil)
        | ((apply JL_pure); (first
      | (apply as_load; first | exact OpR_load' hs rfl rfl is_rfl | exact OpR_load_agg' hs rfl is_rfl | exact OpR_load_el (hr.st hs) hrx rfl rfl is_rfl)
      | (apply as_move; exact OpR_move rfl is_rfl)
      | (apply as_assign; exact OpR_assign rfl is_rfl)
      | (apply as_fieldAddr; first | exact OpR_fieldAddr0 rfl rfl is_rfl | exact OpR_fieldAddr rfl rfl is_rfl)
      | (apply as_load; first | exact OpR_load' hs rfl rfl is_rfl | exact OpR_load_agg' hs rfl is_rfl)
      | (apply as_add; first | exact OpR_addn rfl rfl (by omega) (by first | (simp only [Int.reduceAdd]; exact rfl) | exact rfl) is_rfl | exact OpR_addu rfl rfl (by omega) is_rfl | exact OpR_ibin rfl rfl rfl is_rfl)
      | (apply as_binOp; first | exact OpR_ibin rfl rfl rfl is_rfl | exact OpR_beq rfl rfl is_rfl | exact OpR_bne rfl rfl is_rfl | exact OpR_eqNil rfl rfl is_rfl | exact OpR_neNil rfl rfl is_rfl)
      | (apply as_b_len; first | exact OpR_len rfl is_rfl | exact OpR_len_str rfl is_rfl | exact OpR_len_arr rfl is_rfl)
      | (apply as_indexAddr; first | exact OpR_indexAddr rfl rfl (by omega) (by omega) is_rfl | exact OpR_indexAddr_arr' rfl rfl (by omega) (by omega) (by first | (simp only [Int.reduceToNat, Nat.reduceMul, Nat.reduceAdd]; exact rfl) | exact rfl) is_rfl)); first | (exact rfl; exact rfl) | exact rfl)
        | (apply J_seq)
        | (apply J_region)
        | (apply J_block)
        | (apply J_inBlock)
        | (apply aj_exit; refine J_exit rfl ?_)
        | (apply J_skip)
        | (apply al_none (t := 6); refine JL_o (by apply as_alloc; exact OpR_alloc' hs) rfl rfl ?_; rintro _ _ ⟨b6, rfl, hb6, hs, hE⟩)
        | (apply al_unit; refine JL_u (by apply as_store; exact OpR_store' hs rfl rfl rfl) rfl ?_; rintro _ _ ⟨hs, hF⟩)
        | (apply aj_cond; first | refine J_dec_t rfl ob ?_ | refine J_dec_f rfl ob ?_ | refine J_cond_t rfl gb ?_ | refine J_cond_f rfl gb ?_ | (refine J_cond_dec rfl (fun _ => ?_) (fun _ => ?_)) | (refine J_cond rfl (fun _ => ?_) (fun _ => ?_))))
      refine ih (k + 1) _ _ ⟨hs.sel [] (by decide), by omega, hv⟩ (by omega) (by repeat' (first | exact trivial | exact rfl | apply And.intro))
  · rw [List.drop_of_length_le (by omega)] at hG
    rw [← hG]
    repeat' (first
      | (apply JL_nil)
      | ((apply JL_pure); (first
      | (apply as_move; exact OpR_move rfl is_rfl)
      | (apply as_assign; exact OpR_assign rfl is_rfl)
      | (apply as_fieldAddr; first | exact OpR_fieldAddr0 rfl rfl is_rfl | exact OpR_fieldAddr rfl rfl is_rfl)
      | (apply as_load; first | exact OpR_load' hs rfl rfl is_rfl | exact OpR_load_agg' hs rfl is_rfl)
      | (apply as_add; first | exact OpR_addn rfl rfl (by omega) (by first | (simp only [Int.reduceAdd]; exact rfl) | exact rfl) is_rfl | exact OpR_addu rfl rfl (by omega) is_rfl | exact OpR_ibin rfl rfl rfl is_rfl)
      | (apply as_binOp; first | exact OpR_ibin rfl rfl rfl is_rfl | exact OpR_beq rfl rfl is_rfl | exact OpR_bne rfl rfl is_rfl | exact OpR_eqNil rfl rfl is_rfl | exact OpR_neNil rfl rfl is_rfl)
      | (apply as_b_len; first | exact OpR_len rfl is_rfl | exact OpR_len_str rfl is_rfl | exact OpR_len_arr rfl is_rfl)
      | (apply as_indexAddr; first | exact OpR_indexAddr rfl rfl (by omega) (by omega) is_rfl | exact OpR_indexAddr_arr' rfl rfl (by omega) (by omega) (by first | (simp only [Int.reduceToNat, Nat.reduceMul, Nat.reduceAdd]; exact rfl) | exact rfl) is_rfl)); first | (exact rfl; exact rfl) | exact rfl)
      | (apply J_seq)
      | (apply J_region)
      | (apply J_block)
      | (apply J_inBlock)
      | (apply aj_exit; refine J_exit rfl ?_)
      | (apply J_skip)
      | (apply al_none (t := 6); refine JL_o (by apply as_alloc; exact OpR_alloc' hs) rfl rfl ?_; rintro _ _ ⟨b6, rfl, hb6, hs, hE⟩)
      | (apply al_unit; refine JL_u (by apply as_store; exact OpR_store' hs rfl rfl rfl) rfl ?_; rintro _ _ ⟨hs, hF⟩)
      | (apply aj_cond; first | refine J_dec_t rfl ob ?_ | refine J_dec_f rfl ob ?_ | refine J_cond_t rfl gb ?_ | refine J_cond_f rfl gb ?_ | (refine J_cond_dec rfl (fun _ => ?_) (fun _ => ?_)) | (refine J_cond rfl (fun _ => ?_) (fun _ => ?_))))
    refine J_leave Try.func20 rfl (.tmp rfl .nil) ⟨rfl, hs.frm.ext⟩
end Go.Eng
