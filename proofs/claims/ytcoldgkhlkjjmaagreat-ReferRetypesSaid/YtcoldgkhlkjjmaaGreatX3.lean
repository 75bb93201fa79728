/- The texts KS, K10, K11, K12, K13, K14, K15, K16, joined. -/
import Derived.Test.YtcoldgkhlkjjmaaGreatX2
import Derived.Ground.SlsfProg
import Derived.Shelf.SlLaysF0
import Derived.Test.YtcoldgkhlkjjmaaGreatE29
/- Referrers: the sort of what is held, as it is laid in this program (saylay.py 120 Try.sortHeld). -/
namespace Go.Proofs
def Tryz.sortHeld_ren : Go.Shelf.Ren := ⟨fun | 6 => 200 | 15 => 136 | 14 => 238 | 28 => 197 | 29 => 198 | 20 => 249 | 21 => 250 | 22 => 251 | 23 => 252 | 24 => 253 | 25 => 254 | 26 => 255 | 27 => 256 | 46 => 263 | 47 => 234 | 48 => 235 | 49 => 264 | 50 => 265 | 57 => 276 | n => n, fun | 22 => 23 | 24 => 31 | 25 => 122 | 3 => 3 | 39 => 106 | 0 => 0 | 53 => 232 | 55 => 28 | 4 => 4 | 46 => 226 | 45 => 225 | 50 => 89 | 5 => 5 | 9 => 9 | 66 => 256 | 70 => 260 | 76 => 271 | 77 => 131 | n => n, fun | n => n⟩
theorem Tryz.sortHeld : Go.Proofs.SlLaysF0.n6 Tryz.prog Tryz.sortHeld_ren := ⟨
by kernel_rfl,
⟨Tryz.f200.name, by decide, Tryz.func200.trans (congrArg some (by kernel_rfl))⟩,
⟨Tryz.f238.name, by decide, Tryz.func238.trans (congrArg some (by kernel_rfl))⟩,
Tryz.func136.trans (congrArg some (by kernel_rfl)),
⟨Tryz.f249.name, by decide, Tryz.func249.trans (congrArg some (by kernel_rfl))⟩,
⟨Tryz.f250.name, by decide, Tryz.func250.trans (congrArg some (by kernel_rfl))⟩,
⟨Tryz.f251.name, by decide, Tryz.func251.trans (congrArg some (by kernel_rfl))⟩,
⟨Tryz.f252.name, by decide, Tryz.func252.trans (congrArg some (by kernel_rfl))⟩,
⟨Tryz.f253.name, by decide, Tryz.func253.trans (congrArg some (by kernel_rfl))⟩,
⟨Tryz.f254.name, by decide, Tryz.func254.trans (congrArg some (by kernel_rfl))⟩,
⟨Tryz.f255.name, by decide, Tryz.func255.trans (congrArg some (by kernel_rfl))⟩,
⟨Tryz.f256.name, by decide, Tryz.func256.trans (congrArg some (by kernel_rfl))⟩,
Tryz.func197.trans (congrArg some (by kernel_rfl)),
Tryz.func198.trans (congrArg some (by kernel_rfl)),
⟨Tryz.f263.name, by decide, Tryz.func263.trans (congrArg some (by kernel_rfl))⟩,
Tryz.func234.trans (congrArg some (by kernel_rfl)),
Tryz.func235.trans (congrArg some (by kernel_rfl)),
⟨Tryz.f264.name, by decide, Tryz.func264.trans (congrArg some (by kernel_rfl))⟩,
⟨Tryz.f265.name, by decide, Tryz.func265.trans (congrArg some (by kernel_rfl))⟩,
⟨Tryz.f276.name, by decide, Tryz.func276.trans (congrArg some (by kernel_rfl))⟩,
Tryz.underlying0,
Tryz.isAgg0,
Tryz.sizeOf0,
Tryz.zeroValue0,
Tryz.underlying3,
Tryz.isAgg3,
Tryz.sizeOf3,
Tryz.zeroValue3,
Tryz.underlying4,
Tryz.isAgg4,
Tryz.sizeOf4,
Tryz.zeroValue4,
Tryz.underlying5,
Tryz.isAgg5,
Tryz.sizeOf5,
Tryz.zeroValue5,
Tryz.underlying9,
Tryz.isAgg9,
Tryz.sizeOf9,
Tryz.zeroValue9,
Tryz.underlying23,
Tryz.isAgg23,
Tryz.sizeOf23,
Tryz.zeroValue23,
Tryz.underlying122,
Tryz.isAgg122,
Tryz.sizeOf122,
Tryz.zeroValue122,
Tryz.underlying106,
Tryz.isAgg106,
Tryz.sizeOf106,
Tryz.zeroValue106,
Tryz.underlying225,
Tryz.isAgg225,
Tryz.sizeOf225,
Tryz.zeroValue225,
Tryz.underlying226,
Tryz.isAgg226,
Tryz.sizeOf226,
Tryz.zeroValue226,
Tryz.underlying89,
Tryz.isAgg89,
Tryz.sizeOf89,
Tryz.zeroValue89,
Tryz.underlying232,
Tryz.isAgg232,
Tryz.sizeOf232,
Tryz.zeroValue232,
Tryz.underlying28,
Tryz.isAgg28,
Tryz.sizeOf28,
Tryz.zeroValue28,
Tryz.underlying256,
Tryz.isAgg256,
Tryz.sizeOf256,
Tryz.zeroValue256,
Tryz.underlying260,
Tryz.isAgg260,
Tryz.sizeOf260,
Tryz.zeroValue260,
Tryz.underlying271,
Tryz.isAgg271,
Tryz.sizeOf271,
Tryz.zeroValue271,
Tryz.underlying131,
Tryz.isAgg131,
Tryz.sizeOf131,
Tryz.zeroValue131⟩

end Go.Proofs
/- Referrers: all, of an index, and holders. -/
namespace Go.Eng
open Go.Proofs
set_option linter.unusedSimpArgs false
set_option linter.unusedVariables false
theorem cmpH_swo {α : Type} (f : α → HH) : Go.Sort.SWO (Go.Proofs.ltOf fun x y => cmpH (f x) (f y)) where
  irrefl x := by simp [Go.Proofs.ltOf, cmpH_zero.2 rfl]
  trans x y z h1 h2 := by
    simp only [Go.Proofs.ltOf, decide_eq_true_eq, cmpH_neg] at *
    exact ahead_trans h1 h2
  ntrans x y z h1 h2 := by
    simp only [Go.Proofs.ltOf, decide_eq_false_iff_not, cmpH_neg] at *
    intro h3
    rcases ahead_tri (f x) (f y) with e | e | e
    · exact h1 e
    · rw [e] at h3; exact h2 h3
    · exact h2 (ahead_trans e h3)
abbrev VH : Type := {h : HH // okH h}
instance : Inhabited VH := ⟨⟨(0, 0), by unfold okH inK; exact ⟨by decide, by decide⟩⟩⟩
/-- Without what stands behind its like. -/
def dedS (o : List Int) (x : Int) : List Int := if o.getLast? = some x then o else o ++ [x]
def dedI (xs : List Int) : List Int := xs.foldl dedS []
theorem dedS_last (o : List Int) (x : Int) : (dedS o x).getLast? = some x := by
  unfold dedS
  split
  · assumption
  · simp
theorem dedI_succ {xs : List Int} {i : Nat} {y x : Int} (hy : xs[i]? = some y) (hx : xs[i + 1]? = some x) : dedI (xs.take (i + 1 + 1)) = if y = x then dedI (xs.take (i + 1)) else dedI (xs.take (i + 1)) ++ [x] := by
  have h1 : dedI (xs.take (i + 1)) = dedS (dedI (xs.take i)) y := by unfold dedI; rw [List.take_add_one, hy, List.foldl_append]; rfl
  have h2 : dedI (xs.take (i + 1 + 1)) = dedS (dedI (xs.take (i + 1))) x := by
    unfold dedI
    rw [List.take_add_one (i := i + 1), hx, List.foldl_append]; rfl
  have h3 : (dedI (xs.take (i + 1))).getLast? = some y := by rw [h1]; exact dedS_last _ _
  rw [h2]
  unfold dedS
  rw [h3]
  simp only [Option.some.injEq]
theorem dedI_one {xs : List Int} (h : 0 < xs.length) : dedI (xs.take 1) = xs.take 1 := by
  cases xs with
  | nil => simp at h
  | cons x xs => rfl
theorem dedI_law : ∀ (xs o : List Int), risingI o → (∀ a ∈ o, ∀ x ∈ xs, a ≤ x) → xs.Pairwise (· ≤ ·) → risingI (xs.foldl dedS o) ∧ ∀ z, z ∈ xs.foldl dedS o ↔ z ∈ o ∨ z ∈ xs
  | [], o, h1, _, _ => ⟨h1, fun z => by simp⟩
  | x :: xs, o, h1, h2, h3 => by
    rw [List.pairwise_cons] at h3
    rw [List.foldl_cons]
    have hox : ∀ a ∈ o, a ≤ x := fun a ha => h2 a ha x List.mem_cons_self
    have hr : risingI (dedS o x) := by
      unfold dedS
      split
      · exact h1
      · rename_i hne
        refine List.pairwise_append.2 ⟨h1, by simp, fun a ha b hb => ?_⟩
        rw [List.mem_singleton] at hb
        subst hb
        have h4 := hox a ha
        have h5 : a ≠ b := fun e => hne (by
          subst e
          obtain ⟨l1, l2, rfl⟩ := List.append_of_mem ha
          have h6 := (List.pairwise_append.1 h1).2.1
          cases l2 with
          | nil => simp
          | cons z l2 =>
            have h7 := (List.pairwise_cons.1 h6).1 z List.mem_cons_self
            have h8 := hox z (by simp)
            omega)
        omega
    have hm : ∀ z, z ∈ dedS o x ↔ z ∈ o ∨ z = x := fun z => by
      unfold dedS
      split
      · rename_i he
        refine ⟨.inl, fun h => ?_⟩
        rcases h with h | h
        · exact h
        · rw [h]; exact List.mem_of_getLast? he
      · simp
    obtain ⟨h4, h5⟩ := dedI_law xs (dedS o x) hr (fun a ha y hy => by
      rcases (hm a).1 ha with e | e
      · exact h2 a e y (List.mem_cons_of_mem _ hy)
      · rw [e]; exact h3.1 y hy) h3.2
    refine ⟨h4, fun z => ?_⟩
    rw [h5 z, hm z, List.mem_cons]
    constructor
    · rintro ((e | e) | e)
      · exact .inl e
      · exact .inr (.inl e)
      · exact .inr (.inr e)
    · rintro (e | e | e)
      · exact .inl (.inl e)
      · exact .inl (.inr e)
      · exact .inr e
theorem foldP_law : ∀ (xs o : List Int), risingI o → risingI (xs.foldl putI o) ∧ ∀ z, z ∈ xs.foldl putI o ↔ z ∈ o ∨ z ∈ xs
  | [], o, h1 => ⟨h1, fun z => by simp⟩
  | x :: xs, o, h1 => by
    obtain ⟨h4, h5⟩ := foldP_law xs (putI o x) (putI_rising h1 x)
    rw [List.foldl_cons]
    refine ⟨h4, fun z => ?_⟩
    rw [h5 z, putI_mem, List.mem_cons]
    constructor
    · rintro ((e | e) | e)
      · exact .inr (.inl e)
      · exact .inl e
      · exact .inr (.inr e)
    · rintro (e | e | e)
      · exact .inl (.inr e)
      · exact .inl (.inl e)
      · exact .inr e
/-- Holders, told with no one twice. -/
theorem hold_ded {A : List HH} (hA : sortedH A) (n : Int) : dedI ((underH A n).map Prod.fst) = holdM A n := by
  have hs : ((underH A n).map Prod.fst).Pairwise (· ≤ ·) := List.pairwise_map.2 ((underH_sorted hA n).imp fun {a b} h => by rw [ahead_iff] at h; omega)
  obtain ⟨h1, h2⟩ := dedI_law _ [] List.Pairwise.nil (fun a ha => by cases ha) hs
  obtain ⟨h3, h4⟩ := foldP_law ((underH A n).map Prod.fst) [] List.Pairwise.nil
  exact risingI_uniq h1 h3 fun z => (h2 z).trans (h4 z).symm
theorem sort_all {l : List RH} (h : OkR l) {ys : List HH} (hp : ys.Perm (firsts l)) (hs : ys.Pairwise (fun x y => 0 ≤ cmpH y x)) : ys = allH l := by
  have hnd : ys.Nodup := (hp.nodup_iff).2 (firsts_nodup h.rise h.sort)
  have hsort : sortedH ys := by
    refine List.Pairwise.imp (R := fun x y => 0 ≤ cmpH y x ∧ x ≠ y) (fun {a b} h => ?_) (hs.and hnd)
    rcases ahead_tri a b with e | e | e
    · exact e
    · exact absurd e h.2
    · have := cmpH_neg.2 e; omega
  exact sortedH_uniq hsort (allH_sorted l) fun x => (hp.mem_iff).trans ((firsts_perm h.rise h.sort h.there).mem_iff)
theorem addr0 (a : Option Addr) : a.map (·.add 0) = a := by
  cases a with
  | none => rfl
  | some a => cases a; rfl
attribute [local irreducible] Hold J JL JD JX JXat OpR OpG Ret RetV Is Blk Row MapC
set_option maxRecDepth 100000
set_option maxHeartbeats 1000000
theorem sortH_r (w : World) (a : Option Addr) (n c e : Nat) (xs : List HH) (hr : Held w [Row a n c e 2 (encL cH xs)]) (hok : ∀ x ∈ xs, okH x) (hn : n ≤ 4000000000) :
    Ret Tryz.prog 200 #[.slice a n c, .func (.func 77) #[] #[]] w fun _ w' => ∃ ys : List HH, ys.Perm xs ∧ ys.Pairwise (fun x y => 0 ≤ cmpH y x) ∧ Turn w [Row a n c e 2 (encL cH xs)] w' [Row a n c e 2 (encL cH ys)] := by
  obtain ⟨vs, hvs⟩ : ∃ vs : List VH, vs = xs.pmap (fun p h => ⟨p, h⟩) hok := ⟨_, rfl⟩
  have e1 : vs.map Subtype.val = xs := by rw [hvs, List.map_pmap]; simp
  have e2 : ∀ zs : List VH, encL (fun p : VH => cH p.1) zs = encL cH (zs.map Subtype.val) := fun zs => by unfold encL; rw [List.flatMap_map]
  have hr' : Held w [Row a n c e 2 (encL (fun p : VH => cH p.1) vs)] := by rw [e2, e1]; exact hr
  have h := sortK (P := Tryz.prog) (ρ := Tryz.sortHeld_ren) (k := 2) (enc := fun p : VH => cH p.1) Tryz.sortHeld (by decide) Tryz.isAgg31 Tryz.sizeOf31 (fun _ => rfl) (fun p v hv => by
    simp only [List.mem_cons, List.not_mem_nil, or_false] at hv
    rcases hv with rfl | rfl <;> rfl) (fun x y => cmpH x.1 y.1) (cmpH_swo _) (g := 77) en77 #[] hr' hn (fun W hW x y => hcompare_r _ _ _ x.2 y.2)
  refine h.mono fun v w' ⟨ys, hp, hs, ht⟩ => ⟨ys.map Subtype.val, ?_, ?_, ?_⟩
  · rw [← e1]; exact hp.map _
  · rw [List.pairwise_map]; exact hs
  · rw [e2, e2, e1] at ht; exact ht
theorem sortedFH_r (w : World) (fv : Value) (hfun : IsFun Tryz.prog fv) (xs : List HH) (it : IterV Tryz.prog fv xs.length (heldX xs) w (fun k => k < w.heap.size)) (hok : ∀ x ∈ xs, okH x) (hn : xs.length ≤ 4000000) :
    Ret Tryz.prog 141 #[fv, .func (.func 77) #[] #[]] w fun v w' => ∃ ys : List HH, (ys.Perm xs ∧ ys.Pairwise (fun x y => 0 ≤ cmpH y x)) ∧ ∃ a' c', v = .slice a' xs.length c' ∧ Fresh w w' [RowH a' xs.length c' ys] := by
  refine Ret_of (l := [_, _]) Tryz.func141 rfl Tryz.ntmps141 (by simp) ?_
  have hs := St.init w
  repeat' (first
    | ((apply al_call 143; refine JL_o (by exact OpR_callF en143 rfl (collectH_r _ fv hfun xs (it.ext hs.frm.ext) hn)) rfl rfl ?_; rintro _ _ ⟨az, cz, rfl, hf⟩; have hs := hs.fresh hf; (try simp only [List.cons_append, List.nil_append] at hs)))
    | ((apply al_none (t := 10); refine JL_o (OpR_callF en200 rfl (sortH_r _ az xs.length cz 31 xs (St.held (A := [_]) hs) hok (by omega))) rfl rfl ?_; rintro _ _ ⟨ys, hp, hsrt, ht⟩; have hs := St.take (A := [_]) (A' := [_]) hs ht))
    | (apply JL_nil)
    | ((apply JL_pure); (first
      | (apply as_move; exact OpR_move rfl is_rfl)
      | (apply as_assign; exact OpR_assign rfl is_rfl)); first | (exact rfl; exact rfl) | exact rfl)
    | (apply J_seq)
    | (apply J_region))
  refine J_leave Tryz.func141 rfl (.tmp rfl .nil) ⟨ys, ⟨hp, hsrt⟩, _, _, rfl, hs.out (List.Sublist.refl _)⟩
theorem compact_r (w : World) (a : Option Addr) (n c : Nat) (xs : List Int) (hh : Held w [RowI a n c xs]) (hn : n ≤ 4000000) :
    Ret Tryz.prog 145 #[.slice a n c] w fun v w' => v = .slice a (dedI xs).length c ∧ Turn w [RowI a n c xs] w' [RowI a (dedI xs).length c (dedI xs)] := by
  refine Ret_of (l := [_]) Tryz.func145 rfl Tryz.ntmps145 (by simp) ?_
  have hs := hh.st
  have hrow := hs.row a n c
  have hl : xs.length = n := by have := hrow.len; simpa using this
  have hcap := hrow.2.1
  by_cases h2 : n < 2
  · have hd : dedI xs = xs := by
      match xs, hl with
      | [], _ => rfl
      | [x], _ => rfl
      | x :: y :: xs, hl => simp at hl; omega
    rw [hd, hl]
    repeat' (first
      | (apply JL_nil)
      | ((apply JL_pure); (first
      | (apply as_move; exact OpR_move rfl is_rfl)
      | (apply as_assign; exact OpR_assign rfl is_rfl)
      | (apply as_binOp; exact OpR_ibin rfl rfl rfl is_rfl)
      | (apply as_b_len; exact OpR_len rfl is_rfl)); first | (exact rfl; exact rfl) | exact rfl)
      | (apply J_seq)
      | (apply J_region)
      | (apply aj_cond; refine J_dec_t rfl ob ?_))
    refine J_leave Tryz.func145 rfl (.tmp rfl .nil) ⟨rfl, St.turned (M := []) hs⟩
  · obtain ⟨b, o, rfl⟩ := hrow.some (by omega)
    repeat' (first
      | (apply JL_nil)
      | ((apply JL_pure); (first
      | (apply as_move; exact OpR_move rfl is_rfl)
      | (apply as_assign; exact OpR_assign rfl is_rfl)
      | (apply as_binOp; exact OpR_ibin rfl rfl rfl is_rfl)
      | (apply as_b_len; exact OpR_len rfl is_rfl)); first | (exact rfl; exact rfl) | exact rfl)
      | (apply J_seq)
      | (apply J_region)
      | (apply J_block)
      | (apply J_skip)
      | (apply aj_cond; refine J_dec_f rfl ob ?_))
    have hs0 : St w (Star [RowI (some ⟨b, o, none⟩) n c xs]).foot _ [RowI (some ⟨b, o, none⟩) n c xs] := hs
    refine J_loopK (α := Nat) [(0, _)] (fun k => [(3, .int .i64 (k + 1 : Nat))]) (fun k w' => St w (Star [RowI (some ⟨b, o, none⟩) n c xs]).foot w' [RowI (some ⟨b, o, none⟩) n c xs] ∧ k + 1 ≤ n ∧ dedI (xs.take (k + 1)) = xs.take (k + 1)) (fun k => n - k) 0 ⟨hs0, by omega, dedI_one (by omega)⟩ (by repeat' (first | exact trivial | exact rfl | apply And.intro)) ?_
    rintro k w2 ⟨hs1, hk, hded⟩ ih
    have hs : St w (Star [RowI (some ⟨b, o, none⟩) n c xs]).foot w2 [RowI (some ⟨b, o, none⟩) n c xs] := hs1
    by_cases hlt : k + 1 < n
    · have hx : xs[k]? = some (xs[k]'(by omega)) := List.getElem?_eq_getElem (by omega)
      have hy : xs[k + 1]? = some (xs[k + 1]'(by omega)) := List.getElem?_eq_getElem (by omega)
      obtain ⟨x, hxd⟩ : ∃ x, x = xs[k]'(by omega) := ⟨_, rfl⟩
      obtain ⟨y, hyd⟩ : ∃ y, y = xs[k + 1]'(by omega) := ⟨_, rfl⟩
      rw [← hxd] at hx
      rw [← hyd] at hy
      have hcx : (xs.map (Value.int .i64))[k]? = some (.int .i64 x) := by rw [List.getElem?_map, hx]; rfl
      have hcy : (xs.map (Value.int .i64))[k + 1]? = some (.int .i64 y) := by rw [List.getElem?_map, hy]; rfl
      have hds := dedI_succ hx hy
      by_cases hc : y = x
      · rw [if_pos hc.symm, hded] at hds
        repeat' (first
          | ((apply al_none (t := 28); refine JL_pure (v := .slice (some ⟨b, o + (k + 1) * 1, none⟩) (n - (k + 1)) (c - (k + 1))) (by apply as_slice; exact OpR_slice (kl := .i64) (kh := .i64) (km := .i64) (a' := some ⟨b, o + (k + 1) * 1, none⟩) (l := (k + 1 : Nat)) (m := c) (h := (n : Nat)) rfl (.inr ⟨_, rfl, rfl⟩) (.inl ⟨rfl, rfl, rfl⟩) (.inl ⟨rfl, rfl⟩) (by omega) (by omega) (by omega) (by omega) (by rw [if_neg (by omega)]; simp [Addr.add]) (by rw [show ((n : Int) - ((k + 1 : Nat) : Int)).toNat = n - (k + 1) by omega, show ((c : Int) - ((k + 1 : Nat) : Int)).toNat = c - (k + 1) by omega]; exact is_rfl)) rfl rfl ?_))
          | (apply JL_nil)
          | ((first | (apply JL_pure) | (apply JX_f; exact rfl; intro W X hs)); (first
      | (apply as_load; first | exact OpR_loadRow (b := b) (o := o) (i := k + 1) (n := n) (c := c) hs rfl hcy is_rfl | exact OpR_loadRow (b := b) (o := o) (i := k) (n := n) (c := c) hs (by rw [show ((k + 1 : Nat) : Int) - 1 = (k : Int) by omega]; rfl) hcx is_rfl)
      | (apply as_move; exact OpR_move rfl is_rfl)
      | (apply as_assign; exact OpR_assign rfl is_rfl)
      | (apply as_sub; exact OpR_sub rfl rfl (by omega) is_rfl)
      | (apply as_binOp; exact OpR_ibin rfl rfl rfl is_rfl)
      | (apply as_b_len; exact OpR_len rfl is_rfl)
      | (apply as_indexAddr; exact OpR_indexAddr rfl rfl (by omega) (by omega) is_rfl)); first | (exact rfl; exact rfl) | exact rfl)
          | (apply J_seq)
          | (apply J_region)
          | (apply J_block)
          | (apply J_skip)
          | (apply aj_cond; refine J_dec_t rfl ob ?_)
          | (apply aj_draw; (refine J_drawX (id := 6) [0, 0, 3, 7, 0, 0, 32, 112, 240, 511] [(0, 0), (1, 0), (2, 0), (3, 0), (4, 0), (5, 0), (6, 0), (7, 0), (8, 0), (9, 0)] [] hs mixed (by kernel_rfl) (by kernel_rfl) (by kernel_rfl) (by kernel_rfl) (by kernel_rfl) ?_))
          | (refine JX_done (fun W hs => ?_))
          | (apply JD_done))
        refine J_loopK (α := Nat × Nat × List Int) [(0, _), (4, _)] (fun g => [(3, .int .i64 g.1), (5, .int .i64 (g.2.1 + 1 : Nat))]) (fun g w' => St w (Star [RowI (some ⟨b, o, none⟩) n c xs]).foot w' [RowI (some ⟨b, o, none⟩) n c g.2.2] ∧ (g.1 ≤ k + 1 + g.2.1 ∧ k + 1 + g.2.1 + 1 ≤ n) ∧ g.2.2.length = n ∧ g.2.2.drop (k + 1 + g.2.1) = xs.drop (k + 1 + g.2.1) ∧ g.2.2.take g.1 = dedI (xs.take (k + 1 + g.2.1 + 1))) (fun g => n - g.2.1) (k + 1, 0, xs) ⟨hs, ⟨Nat.le_refl _, hlt⟩, hl, rfl, hds.symm⟩ (by repeat' (first | exact trivial | exact rfl | apply And.intro)) ?_
        rintro ⟨i, j, ys⟩ w3 ⟨hs1, ⟨hij, hjn⟩, hyl, hdr, htk⟩ ih2
        dsimp only at hs1 hij hjn hyl hdr htk ih2 ⊢
        have hs : St w (Star [RowI (some ⟨b, o, none⟩) n c xs]).foot w3 [RowI (some ⟨b, o, none⟩) n c ys] := hs1
        have hgd : ∀ q, k + 1 + j ≤ q → ys[q]? = xs[q]? := fun q hq => by
          have : (ys.drop (k + 1 + j))[q - (k + 1 + j)]? = (xs.drop (k + 1 + j))[q - (k + 1 + j)]? := by rw [hdr]
          rw [List.getElem?_drop, List.getElem?_drop, show k + 1 + j + (q - (k + 1 + j)) = q by omega] at this
          exact this
        by_cases hlj : k + 1 + j + 1 < n
        · have hu : xs[k + 1 + j]? = some (xs[k + 1 + j]'(by omega)) := List.getElem?_eq_getElem (by omega)
          have hv : xs[k + 1 + j + 1]? = some (xs[k + 1 + j + 1]'(by omega)) := List.getElem?_eq_getElem (by omega)
          obtain ⟨u, hud⟩ : ∃ u, u = xs[k + 1 + j]'(by omega) := ⟨_, rfl⟩
          obtain ⟨v, hvd⟩ : ∃ v, v = xs[k + 1 + j + 1]'(by omega) := ⟨_, rfl⟩
          rw [← hud] at hu
          rw [← hvd] at hv
          have hcu : (ys.map (Value.int .i64))[k + 1 + j]? = some (.int .i64 u) := by rw [List.getElem?_map, hgd _ (Nat.le_refl _), hu]; rfl
          have hcv : (ys.map (Value.int .i64))[k + 1 + j + 1]? = some (.int .i64 v) := by rw [List.getElem?_map, hgd _ (by omega), hv]; rfl
          have hd2 := dedI_succ hu hv
          have hdr2 : ys.drop (k + 1 + j + 1) = xs.drop (k + 1 + j + 1) := by
            have : (ys.drop (k + 1 + j)).drop 1 = (xs.drop (k + 1 + j)).drop 1 := by rw [hdr]
            rwa [List.drop_drop, List.drop_drop] at this
          by_cases hc2 : u = v
          · rw [if_pos hc2] at hd2
            have hc3 : v = u := hc2.symm
            repeat' (first
              | (apply JL_nil)
              | ((first | (apply JL_pure) | (apply JX_f; exact rfl; intro W X hs)); (first
      | (apply as_load; first | exact OpR_loadRow (b := b) (o := o) (i := k + 1 + j + 1) (n := n) (c := c) hs (by rw [show o + (k + 1 + j + 1) * 1 = o + (k + 1) * 1 + (j + 1) * 1 by omega]; rfl) hcv is_rfl | exact OpR_loadRow (b := b) (o := o) (i := k + 1 + j) (n := n) (c := c) hs (by rw [show o + (k + 1 + j) * 1 = o + (k + 1) * 1 + (((j + 1 : Nat) : Int) - 1).toNat * 1 by omega]; rfl) hcu is_rfl)
      | (apply as_move; exact OpR_move rfl is_rfl)
      | (apply as_assign; exact OpR_assign rfl is_rfl)
      | (apply as_add; exact OpR_addn rfl rfl (by omega) (by first | (simp only [Int.reduceAdd]; exact rfl) | exact rfl) is_rfl)
      | (apply as_sub; exact OpR_sub rfl rfl (by omega) is_rfl)
      | (apply as_binOp; exact OpR_ibin rfl rfl rfl is_rfl)
      | (apply as_b_len; exact OpR_len rfl is_rfl)
      | (apply as_indexAddr; exact OpR_indexAddr rfl rfl (by omega) (by omega) is_rfl)); first | (exact rfl; exact rfl) | exact rfl)
              | (apply J_seq)
              | (apply J_region)
              | (apply J_block)
              | (apply J_inBlock)
              | (apply J_skip)
              | (apply aj_cond; first | refine J_dec_t rfl ob ?_ | refine J_dec_f rfl ob ?_)
              | (apply aj_draw; (refine J_drawX (id := 11) [0, 0, 3, 7, 0, 0, 32, 112, 240, 511] [(0, 0), (1, 0), (2, 0), (3, 0), (4, 0), (5, 0), (6, 0), (7, 0), (8, 0), (9, 0)] [] hs mixed (by kernel_rfl) (by kernel_rfl) (by kernel_rfl) (by kernel_rfl) (by kernel_rfl) ?_))
              | (refine JX_done (fun W hs => ?_))
              | (apply JD_done))
            refine ih2 (i, j + 1, ys) _ _ ⟨hs, ⟨by show i ≤ k + 1 + (j + 1); omega, by show k + 1 + (j + 1) + 1 ≤ n; omega⟩, hyl, hdr2, by show ys.take i = dedI (xs.take (k + 1 + j + 1 + 1)); rw [hd2]; exact htk⟩ (by show n - (j + 1) < n - j; omega) (by repeat' (first | exact trivial | exact rfl | apply And.intro))
          · rw [if_neg hc2] at hd2
            have hc3 : ¬ v = u := fun e => hc2 e.symm
            have hset : (ys.map (Value.int .i64)).set i (.int .i64 v) = (ys.set i v).map (Value.int .i64) := by rw [List.map_set]
            repeat' (first
              | ((apply al_unit; refine JL_u (by apply as_store; exact OpR_storeRow (b := b) (o := o) (i := i) (n := n) (c := c) hs rfl rfl rfl rfl (by omega)) rfl ?_; rintro _ _ ⟨hs, hF⟩; rw [hset] at hs))
              | (apply JL_nil)
              | ((first | (apply JL_pure) | (apply JX_f; exact rfl; intro W X hs)); (first
      | (apply as_load; first | exact OpR_loadRow (b := b) (o := o) (i := k + 1 + j + 1) (n := n) (c := c) hs (by rw [show o + (k + 1 + j + 1) * 1 = o + (k + 1) * 1 + (j + 1) * 1 by omega]; rfl) hcv is_rfl | exact OpR_loadRow (b := b) (o := o) (i := k + 1 + j) (n := n) (c := c) hs (by rw [show o + (k + 1 + j) * 1 = o + (k + 1) * 1 + (((j + 1 : Nat) : Int) - 1).toNat * 1 by omega]; rfl) hcu is_rfl)
      | (apply as_move; exact OpR_move rfl is_rfl)
      | (apply as_assign; exact OpR_assign rfl is_rfl)
      | (apply as_add; exact OpR_addn rfl rfl (by omega) (by first | (simp only [Int.reduceAdd]; exact rfl) | exact rfl) is_rfl)
      | (apply as_sub; exact OpR_sub rfl rfl (by omega) is_rfl)
      | (apply as_binOp; exact OpR_ibin rfl rfl rfl is_rfl)
      | (apply as_b_len; exact OpR_len rfl is_rfl)
      | (apply as_indexAddr; exact OpR_indexAddr rfl rfl (by omega) (by omega) is_rfl)); first | (exact rfl; exact rfl) | exact rfl)
              | (apply J_seq)
              | (apply J_region)
              | (apply J_block)
              | (apply J_inBlock)
              | (apply J_skip)
              | (apply aj_cond; refine J_dec_t rfl ob ?_)
              | (apply aj_draw; (refine J_drawX (id := 11) [0, 0, 3, 7, 0, 0, 32, 112, 240, 511] [(0, 0), (1, 0), (2, 0), (3, 0), (4, 0), (5, 0), (6, 0), (7, 0), (8, 0), (9, 0)] [] hs mixed (by kernel_rfl) (by kernel_rfl) (by kernel_rfl) (by kernel_rfl) (by kernel_rfl) ?_))
              | (refine JX_done (fun W hs => ?_))
              | (apply JD_done))
            refine ih2 (i + 1, j + 1, ys.set i v) _ _ ⟨hs, ⟨by show i + 1 ≤ k + 1 + (j + 1); omega, by show k + 1 + (j + 1) + 1 ≤ n; omega⟩, by show (ys.set i v).length = n; rw [List.length_set]; exact hyl, ?_, ?_⟩ (by show n - (j + 1) < n - j; omega) (by repeat' (first | exact trivial | exact rfl | apply And.intro))
            · show (ys.set i v).drop (k + 1 + j + 1) = _
              rw [List.drop_set_of_lt (by omega)]; exact hdr2
            · show (ys.set i v).take (i + 1) = dedI (xs.take (k + 1 + j + 1 + 1))
              rw [hd2, ← htk, List.take_add_one, List.getElem?_set_self (by omega), List.take_set_of_le (Nat.le_refl _)]; rfl
        · rw [List.take_of_length_le (l := xs) (by omega)] at htk
          have hin : i ≤ n := by omega
          have hfl : (dedI xs).length = i := by rw [← htk, List.length_take]; omega
          have hcell : ∀ zs, (splice (ys.map (Value.int .i64)) (i * 1) zs).take (i * 1) = (dedI xs).map (Value.int .i64) := fun zs => by
            rw [splice_take _ _ _ (by rw [List.length_map]; omega), ← htk, List.map_take, Nat.mul_one]
          rw [hfl]
          repeat' (first
            | ((apply al_none (t := 56); refine JL_pure (v := .slice (some ⟨b, o + i * 1, none⟩) (n - i) (c - i)) (by apply as_slice; exact OpR_slice (kl := .i64) (kh := .i64) (km := .i64) (a' := some ⟨b, o + i * 1, none⟩) (l := (i : Nat)) (m := c) (h := (n : Nat)) rfl (.inr ⟨_, rfl, rfl⟩) (.inl ⟨rfl, rfl, rfl⟩) (.inl ⟨rfl, rfl⟩) (by omega) (by omega) (by omega) (by omega) (by rw [if_neg (by omega)]; simp [Addr.add]) (by rw [show ((n : Int) - (i : Int)).toNat = n - i by omega, show ((c : Int) - (i : Int)).toNat = c - i by omega]; exact is_rfl)) rfl rfl ?_))
            | ((apply al_unit; refine JL_u (by apply as_b_clear; exact OpR_clear (a := some ⟨b, o, none⟩) (off := i) (n := n) (c := c) (sz := 1) hs rfl rfl (by decide) (fun _ => by simp [Addr.add]) (by omega)) rfl ?_; rintro _ _ ⟨rfl, ⟨zs, hzl, hs⟩, hF⟩))
            | ((apply al_none (t := 59); refine JL_pure (v := .slice (some ⟨b, o, none⟩) i c) (by apply as_slice; exact OpR_slice (kl := .i64) (kh := .i64) (km := .i64) (a' := some ⟨b, o, none⟩) (m := c) (h := (i : Nat)) rfl (.inl ⟨rfl, rfl⟩) (.inr ⟨_, rfl, rfl⟩) (.inl ⟨rfl, rfl⟩) (by omega) (by omega) (by omega) (by omega) (by split; rfl; exact addr0 _) (by rw [Int.sub_zero, Int.sub_zero, Int.toNat_natCast, Int.toNat_natCast]; exact is_rfl)) rfl rfl ?_))
            | (apply JL_nil)
            | ((apply JL_pure); (first
      | (apply as_move; exact OpR_move rfl is_rfl)
      | (apply as_assign; exact OpR_assign rfl is_rfl)
      | (apply as_binOp; exact OpR_ibin rfl rfl rfl is_rfl)
      | (apply as_b_len; exact OpR_len rfl is_rfl)); first | (exact rfl; exact rfl) | exact rfl)
            | (apply J_seq)
            | (apply J_region)
            | (apply aj_exit; refine J_exit rfl ?_)
            | (apply aj_cond; refine J_dec_f rfl ob ?_))
          have hs := hs.cutRow i c (by omega) (by omega) (Nat.le_refl _)
          rw [hcell] at hs
          refine J_leave Tryz.func145 rfl (.tmp rfl .nil) ⟨rfl, St.turned (M := []) hs⟩
      · rw [if_neg (fun e => hc e.symm), hded] at hds
        repeat' (first
          | (apply JL_nil)
          | ((first | (apply JL_pure) | (apply JX_f; exact rfl; intro W X hs)); (first
      | (apply as_load; first | exact OpR_loadRow (b := b) (o := o) (i := k + 1) (n := n) (c := c) hs rfl hcy is_rfl | exact OpR_loadRow (b := b) (o := o) (i := k) (n := n) (c := c) hs (by rw [show ((k + 1 : Nat) : Int) - 1 = (k : Int) by omega]; rfl) hcx is_rfl)
      | (apply as_move; exact OpR_move rfl is_rfl)
      | (apply as_assign; exact OpR_assign rfl is_rfl)
      | (apply as_add; exact OpR_addn rfl rfl (by omega) (by first | (simp only [Int.reduceAdd]; exact rfl) | exact rfl) is_rfl)
      | (apply as_sub; exact OpR_sub rfl rfl (by omega) is_rfl)
      | (apply as_binOp; exact OpR_ibin rfl rfl rfl is_rfl)
      | (apply as_b_len; exact OpR_len rfl is_rfl)
      | (apply as_indexAddr; exact OpR_indexAddr rfl rfl (by omega) (by omega) is_rfl)); first | (exact rfl; exact rfl) | exact rfl)
          | (apply J_seq)
          | (apply J_region)
          | (apply J_block)
          | (apply J_inBlock)
          | (apply J_skip)
          | (apply aj_cond; first | refine J_dec_t rfl ob ?_ | refine J_dec_f rfl ob ?_)
          | (apply aj_draw; (refine J_drawX (id := 6) [0, 0, 3, 7, 0, 0, 32, 112, 240, 511] [(0, 0), (1, 0), (2, 0), (3, 0), (4, 0), (5, 0), (6, 0), (7, 0), (8, 0), (9, 0)] [] hs mixed (by kernel_rfl) (by kernel_rfl) (by kernel_rfl) (by kernel_rfl) (by kernel_rfl) ?_))
          | (refine JX_done (fun W hs => ?_))
          | (apply JD_done))
        refine ih (k + 1) _ _ ⟨hs, hlt, by rw [hds, List.take_add_one (i := k + 1), hy]; rfl⟩ (by omega) (by repeat' (first | exact trivial | exact rfl | apply And.intro))
    · have hkn : k + 1 = n := by omega
      rw [List.take_of_length_le (by omega)] at hded
      rw [hded, hl]
      repeat' (first
        | (apply JL_nil)
        | ((apply JL_pure); (first
      | (apply as_move; exact OpR_move rfl is_rfl)
      | (apply as_assign; exact OpR_assign rfl is_rfl)
      | (apply as_binOp; exact OpR_ibin rfl rfl rfl is_rfl)
      | (apply as_b_len; exact OpR_len rfl is_rfl)); first | (exact rfl; exact rfl) | exact rfl)
        | (apply J_seq)
        | (apply J_region)
        | (apply aj_exit; refine J_exit rfl ?_)
        | (apply aj_cond; refine J_dec_f rfl ob ?_))
      refine J_leave Tryz.func145 rfl (.tmp rfl .nil) ⟨rfl, St.turned (M := []) hs⟩
end Go.Eng
/- Referrers: All, Of, Holders. -/
namespace Go.Eng
open Go.Proofs
set_option linter.unusedSimpArgs false
set_option linter.unusedVariables false
def allR (l : List RH) : List HH := if rightH l then allH l else []
def ofR (l : List RH) (x : Int) : List HH := if rightH l then underH (allH l) x else []
def hldR (l : List RH) (x : Int) : List Int := if rightH l then holdM (allH l) x else []
theorem err_ok {l : List RH} (h : rightH l = true) : errR l = 0 := by unfold errR; rw [h]; rfl
theorem err_bad {l : List RH} (h : rightH l = false) : errR l = 250 := by unfold errR; rw [h]; rfl
theorem allH_ok {l : List RH} (h : ∀ r ∈ l, inK .i64 r.1 ∧ ∀ x ∈ r.2, okH x) : ∀ x ∈ allH l, okH x := fun x hx => by
  obtain ⟨r, hr, hxr⟩ := allH_mem.1 hx
  exact (h r hr).2 x hxr
attribute [local irreducible] Hold J JL JD JX JXat OpR OpG Ret RetV Is Blk Row MapC
set_option maxRecDepth 100000
set_option maxHeartbeats 1000000
theorem rall_r (w : World) (a : Option Addr) (n c : Nat) (l : List RH) (h : Sl dRef All w a n c l) (hn : n ≤ 1000000000) (hb : tot l ≤ 1000000) :
    Ret Tryz.prog 66 #[.slice a n c] w fun v w' => ∃ a' c', v = .slice a' (allR l).length c' ∧ Fresh w w' [RowH a' (allR l).length c' (allR l)] := by
  refine Ret_of (l := [_]) Tryz.func66 rfl Tryz.ntmps66 (by simp) ?_
  have hs := St.init w
  cases hr : rightH l with
  | true =>
    have hok := right_ok.1 hr
    have hA : allR l = allH l := by unfold allR; rw [hr]; rfl
    have hlen := (firsts_perm hok.rise hok.sort hok.there).length_eq
    have hfo : ∀ x ∈ firsts l, okH x := fun x hx => allH_ok (sl_okR h) x ((firsts_perm hok.rise hok.sort hok.there).mem_iff.1 hx)
    have hfl := firsts_le l
    repeat' (first
      | ((apply al_call 71; refine JL_o (by exact OpR_callF en71 rfl (rcheck_r _ a n c l (h.st hs) hn hb)) rfl rfl ?_; rintro _ _ ⟨rfl, hE⟩; rw [err_ok hr]; have hs := hs.ext hE; (try simp only [List.cons_append, List.nil_append] at hs)))
      | ((apply al_call 142; refine JL_o (by exact OpR_callF en142 rfl (held_r _ a n c)) rfl rfl ?_; rintro _ _ ⟨b1, rfl, hf⟩; have hs := hs.fresh hf; (try simp only [List.cons_append, List.nil_append] at hs)))
      | ((apply al_call 141; refine JL_o (by exact OpR_callF en141 rfl (sortedFH_r _ (.func (.func 201) #[] #[ptr b1]) ⟨_, _, rfl, en201⟩ (firsts l) (heldIt_ok _ b1 a n c l (h.st hs) (hs.blk (b := b1))) hfo (by omega))) rfl rfl ?_; rintro _ _ ⟨ys, ⟨hp, hsrt⟩, a3, c3, rfl, hf⟩; have hs := hs.fresh hf; (try simp only [List.cons_append, List.nil_append] at hs)))
      | (apply JL_nil)
      | ((apply JL_pure); (first
      | (apply as_move; exact OpR_move rfl is_rfl)
      | (apply as_assign; exact OpR_assign rfl is_rfl)
      | (apply as_binOp; exact OpR_ibin rfl rfl rfl is_rfl)); first | (exact rfl; exact rfl) | exact rfl)
      | (apply J_seq)
      | (apply J_region)
      | (apply J_skip)
      | (apply aj_cond; refine J_dec_f rfl ob ?_))
    have hys := sort_all hok hp hsrt
    subst hys
    rw [hA]
    rw [hlen] at hs
    refine J_leave Tryz.func66 rfl (.tmp rfl .nil) ⟨a3, c3, by rw [← hlen]; rfl, hs.out (.cons_cons _ (List.nil_sublist _))⟩
  | false =>
    have hA : allR l = [] := by unfold allR; rw [hr]; rfl
    rw [hA]
    repeat' (first
      | ((apply al_call 71; refine JL_o (by exact OpR_callF en71 rfl (rcheck_r _ a n c l (h.st hs) hn hb)) rfl rfl ?_; rintro _ _ ⟨rfl, hE⟩; rw [err_bad hr]; have hs := hs.ext hE; (try simp only [List.cons_append, List.nil_append] at hs)))
      | (apply JL_nil)
      | ((apply JL_pure); (first
      | (apply as_move; exact OpR_move rfl is_rfl)
      | (apply as_assign; exact OpR_assign rfl is_rfl)
      | (apply as_binOp; exact OpR_ibin rfl rfl rfl is_rfl)); first | (exact rfl; exact rfl) | exact rfl)
      | (apply J_seq)
      | (apply J_region)
      | (apply aj_cond; refine J_dec_t rfl ob ?_))
    have hs := hs.nilRow 31 2
    refine J_leave Tryz.func66 rfl (.tmp rfl .nil) ⟨none, 0, rfl, hs.out (List.Sublist.refl _)⟩
theorem rof_r (w : World) (a : Option Addr) (n c : Nat) (l : List RH) (x : Int) (h : Sl dRef All w a n c l) (hn : n ≤ 1000000000) (hb : tot l ≤ 1000000) :
    Ret Tryz.prog 67 #[.slice a n c, .int .i64 x] w fun v w' => ∃ a' c', v = .slice a' (ofR l x).length c' ∧ Fresh w w' [RowH a' (ofR l x).length c' (ofR l x)] := by
  refine Ret_of (l := [_, _]) Tryz.func67 rfl Tryz.ntmps67 (by simp) ?_
  have hs := St.init w
  cases hr : rightH l with
  | true =>
    have hok := right_ok.1 hr
    have hA : ofR l x = underH (allH l) x := by unfold ofR; rw [hr]; rfl
    have hul : (underH (allH l) x).length ≤ 1000000 := Nat.le_trans (List.length_filter_le _ _) (Nat.le_trans (allH_len l) hb)
    rw [hA]
    repeat' (first
      | ((apply al_call 71; refine JL_o (by exact OpR_callF en71 rfl (rcheck_r _ a n c l (h.st hs) hn hb)) rfl rfl ?_; rintro _ _ ⟨rfl, hE⟩; rw [err_ok hr]; have hs := hs.ext hE; (try simp only [List.cons_append, List.nil_append] at hs)))
      | ((apply al_call 144; refine JL_o (by exact OpR_callF en144 rfl (under_r _ a n c x)) rfl rfl ?_; rintro _ _ ⟨b1, b2, rfl, hf⟩; have hs := hs.fresh hf; (try simp only [List.cons_append, List.nil_append] at hs)))
      | ((apply al_call 143; refine JL_o (by exact OpR_callF en143 rfl (collectH_r _ (.func (.func 203) #[] #[ptr b1, ptr b2]) ⟨_, _, rfl, en203⟩ (underH (allH l) x) (underIt_ok _ b1 b2 a n c l x (h.st hs) hn hok (hs.blk (b := b1)) (hs.blk (b := b2))) (by omega))) rfl rfl ?_; rintro _ _ ⟨a3, c3, rfl, hf⟩; have hs := hs.fresh hf; (try simp only [List.cons_append, List.nil_append] at hs)))
      | (apply JL_nil)
      | ((apply JL_pure); (first
      | (apply as_move; exact OpR_move rfl is_rfl)
      | (apply as_assign; exact OpR_assign rfl is_rfl)
      | (apply as_binOp; exact OpR_ibin rfl rfl rfl is_rfl)); first | (exact rfl; exact rfl) | exact rfl)
      | (apply J_seq)
      | (apply J_region)
      | (apply J_skip)
      | (apply aj_cond; refine J_dec_f rfl ob ?_))
    refine J_leave Tryz.func67 rfl (.tmp rfl .nil) ⟨a3, c3, rfl, hs.out (.cons_cons _ (List.nil_sublist _))⟩
  | false =>
    have hA : ofR l x = [] := by unfold ofR; rw [hr]; rfl
    rw [hA]
    repeat' (first
      | ((apply al_call 71; refine JL_o (by exact OpR_callF en71 rfl (rcheck_r _ a n c l (h.st hs) hn hb)) rfl rfl ?_; rintro _ _ ⟨rfl, hE⟩; rw [err_bad hr]; have hs := hs.ext hE; (try simp only [List.cons_append, List.nil_append] at hs)))
      | (apply JL_nil)
      | ((apply JL_pure); (first
      | (apply as_move; exact OpR_move rfl is_rfl)
      | (apply as_assign; exact OpR_assign rfl is_rfl)
      | (apply as_binOp; exact OpR_ibin rfl rfl rfl is_rfl)); first | (exact rfl; exact rfl) | exact rfl)
      | (apply J_seq)
      | (apply J_region)
      | (apply aj_cond; refine J_dec_t rfl ob ?_))
    have hs := hs.nilRow 31 2
    refine J_leave Tryz.func67 rfl (.tmp rfl .nil) ⟨none, 0, rfl, hs.out (List.Sublist.refl _)⟩
theorem rholders_r (w : World) (a : Option Addr) (n c : Nat) (l : List RH) (x : Int) (h : Sl dRef All w a n c l) (hn : n ≤ 1000000000) (hb : tot l ≤ 1000000) :
    Ret Tryz.prog 68 #[.slice a n c, .int .i64 x] w fun v w' => ∃ a' c', v = .slice a' (hldR l x).length c' ∧ Fresh w w' [RowI a' (hldR l x).length c' (hldR l x)] := by
  refine Ret_of (l := [_, _]) Tryz.func68 rfl Tryz.ntmps68 (by simp) ?_
  have hs := St.init w
  obtain ⟨U, hU⟩ : ∃ U, U = ofR l x := ⟨_, rfl⟩
  have hUl : U.length ≤ 1000000 := by
    rw [hU]; unfold ofR
    split
    · exact Nat.le_trans (List.length_filter_le _ _) (Nat.le_trans (allH_len l) hb)
    · simp
  have hUo : ∀ y ∈ U, okH y := by
    rw [hU]; unfold ofR
    split
    · exact fun y hy => allH_ok (sl_okR h) y (underH_mem.1 hy).1
    · exact fun y hy => by cases hy
  have hded : dedI (U.map Prod.fst) = hldR l x := by
    rw [hU]; unfold ofR hldR
    split
    · exact hold_ded (allH_sorted l) x
    · rfl
  repeat' (first
    | ((apply al_call 67; refine JL_o (by exact OpR_callF en67 rfl (rof_r _ a n c l x (h.st hs) hn hb)) rfl rfl ?_; rintro _ _ ⟨a7, c7, rfl, hf⟩; rw [← hU] at hf ⊢; have hs := hs.fresh hf; (try simp only [List.cons_append, List.nil_append] at hs)))
    | (apply JL_nil)
    | ((apply JL_pure); (first
      | (apply as_move; exact OpR_move rfl is_rfl)
      | (apply as_assign; exact OpR_assign rfl is_rfl)
      | (apply as_b_len; exact OpR_len rfl is_rfl)); first | (exact rfl; exact rfl) | exact rfl)
    | (apply J_seq)
    | (apply J_region)
    | (apply J_block))
  have hs := hs.nilRow 3 1
  refine J_loopK (α := Nat × List Int × Option Addr × Nat) [(10, _), (11, _)] (fun g => [(5, .slice g.2.2.1 g.2.1.length g.2.2.2), (12, .int .i64 g.1)]) (fun g w' => St w NoF w' [RowI g.2.2.1 g.2.1.length g.2.2.2 g.2.1, RowH a7 U.length c7 U] ∧ g.1 ≤ U.length ∧ g.2.1 = (U.take g.1).map Prod.fst) (fun g => U.length - g.1) (0, [], none, 0) ⟨hs, Nat.zero_le _, rfl⟩ (by repeat' (first | exact trivial | exact rfl | apply And.intro)) ?_
  rintro ⟨k, zs, a', c'⟩ w2 ⟨hs1, hk, hzs⟩ ih
  dsimp only at hs1 hk hzs ih ⊢
  have hzl : zs.length = k := by rw [hzs, List.length_map, List.length_take]; omega
  by_cases hlt : k < U.length
  · have hs : St w NoF w2 [_, _] := hs1
    obtain ⟨p, o, rfl⟩ := (hs.row a7 U.length c7).some (by omega)
    have hs : St w NoF w2 [_, _] := hs1
    have hx : U[k]? = some (U[k]'hlt) := List.getElem?_eq_getElem hlt
    obtain ⟨y, hyd⟩ : ∃ y, y = U[k]'hlt := ⟨_, rfl⟩
    rw [← hyd] at hx
    repeat' (first
      | ((apply al_none (t := 20); refine JL_o (by apply as_b_append; exact OpR_append (xs := zs.map (Value.int .i64)) (news := [.int .i64 y.1]) hs rfl rfl (src_blkI (hs.blk (b := b19))) plain_blk rfl (by omega) (by unfold maxLen; omega)) rfl rfl ?_; rintro _ _ ⟨a4, c4, rfl, hs, hF, hnil⟩; rw [show zs.map (Value.int .i64) ++ [.int .i64 y.1] = (zs ++ [y.1]).map (Value.int .i64) from map_snoc zs y.1] at hs))
      | (apply JL_nil)
      | ((apply JL_pure); (first
      | (apply as_load; first | exact OpR_load' hs rfl rfl is_rfl | exact OpR_load_agg' hs rfl is_rfl | exact OpR_load_el (slH hs (by repeat (first | exact List.Mem.head _ | apply List.Mem.tail)) hUo) hx rfl rfl is_rfl)
      | (apply as_move; exact OpR_move rfl is_rfl)
      | (apply as_assign; exact OpR_assign rfl is_rfl)
      | (apply as_fieldAddr; exact OpR_fieldAddr0 rfl rfl is_rfl)
      | (apply as_add; exact OpR_addn rfl rfl (by omega) (by first | (simp only [Int.reduceAdd]; exact rfl) | exact rfl) is_rfl)
      | (apply as_binOp; exact OpR_ibin rfl rfl rfl is_rfl)
      | (apply as_indexAddr; exact OpR_indexAddr rfl rfl (by omega) (by omega) is_rfl)); first | (exact rfl; exact rfl) | exact rfl)
      | (apply J_seq)
      | (apply J_region)
      | (apply J_block)
      | (apply J_inBlock)
      | (apply J_skip)
      | (apply al_none (t := 7); refine JL_o (by apply as_alloc; exact OpR_alloc' hs) rfl rfl ?_; rintro _ _ ⟨b7, rfl, hb7, hs, hE⟩)
      | (apply al_none (t := 19); refine JL_o (by apply as_buildSlice; exact OpR_buildSlice hs rfl (by omega) rfl) rfl rfl ?_; rintro _ _ ⟨b19, rfl, hb19, hs, hE⟩)
      | (apply al_unit; refine JL_u (by apply as_store; exact OpR_store' hs rfl rfl rfl) rfl ?_; rintro _ _ ⟨hs, hF⟩)
      | (apply aj_cond; refine J_dec_t rfl ob ?_))
    refine ih (k + 1, zs ++ [y.1], a4, c4) _ _ ⟨by rw [List.length_append]; exact hs.sel [2, 3] (by decide), hlt, by show zs ++ [y.1] = _; rw [hzs, List.take_add_one, hx, List.map_append]; rfl⟩ (by show U.length - (k + 1) < U.length - k; omega) (by rw [List.length_append]; repeat' (first | exact trivial | exact rfl | apply And.intro))
  · have hs : St w NoF w2 [_, _] := hs1
    rw [List.take_of_length_le (by omega)] at hzs
    rw [← hded, ← hzs]
    repeat' (first
      | ((apply al_none (t := 23); refine JL_o (OpR_callF en145 rfl (compact_r _ a' zs.length c' zs (St.held (A := [_]) hs) (by omega))) rfl rfl ?_; rintro _ _ ⟨rfl, ht⟩; have hs := St.take (A := [_]) (A' := [_]) hs ht))
      | (apply JL_nil)
      | ((apply JL_pure); (first
      | (apply as_move; exact OpR_move rfl is_rfl)
      | (apply as_assign; exact OpR_assign rfl is_rfl)
      | (apply as_binOp; exact OpR_ibin rfl rfl rfl is_rfl)); first | (exact rfl; exact rfl) | exact rfl)
      | (apply J_seq)
      | (apply J_region)
      | (apply aj_exit; refine J_exit rfl ?_)
      | (apply aj_cond; refine J_dec_f rfl ob ?_))
    refine J_leave Tryz.func68 rfl (.tmp rfl .nil) ⟨_, _, rfl, hs.out (.cons_cons _ (List.nil_sublist _))⟩
end Go.Eng
/- Referrers: those of one's own. -/
namespace Go.Eng
open Go.Proofs
set_option linter.unusedSimpArgs false
set_option linter.unusedVariables false
theorem encR_set1 (rs : List RRef) (k : Nat) (r : RRef) (q : RS) (hr : rs[k]? = some r) : splice (encL cRef rs) (k * 2 + 1) [.slice q.1 q.2.1 q.2.2] = encL cRef (rs.set k (r.1, q)) := by
  have hk := (List.getElem?_eq_some_iff.1 hr).1
  have h1 : encL cRef (rs.set k (r.1, q)) = splice (encL cRef rs) (k * 2) (cRef (r.1, q)) := encL_set (d := dRRef) rs k _ hk
  rw [h1]
  have hg : ∀ j, j < 2 → (encL cRef rs)[k * 2 + j]? = (cRef r)[j]? := fun j hj => encL_get (d := dRRef) rs k j r hr hj
  have hle : (encL cRef rs).length = rs.length * 2 := encL_len (d := dRRef) rs
  apply List.ext_getElem?
  intro i
  unfold splice
  have e1 : ((encL cRef rs).take (k * 2 + 1)).length = k * 2 + 1 := by rw [List.length_take]; omega
  have e2 : ((encL cRef rs).take (k * 2)).length = k * 2 := by rw [List.length_take]; omega
  simp only [List.length_cons, List.length_nil]
  by_cases c1 : i < k * 2
  · rw [List.append_assoc, List.append_assoc, List.getElem?_append_left (by omega), List.getElem?_append_left (by omega), List.getElem?_take, List.getElem?_take, if_pos (by omega), if_pos (by omega)]
  · by_cases c2 : i < k * 2 + 2
    · obtain ⟨j, rfl⟩ : ∃ j, i = k * 2 + j := ⟨i - k * 2, by omega⟩
      have hj : j = 0 ∨ j = 1 := by omega
      rw [List.append_assoc, List.append_assoc]
      rw [List.getElem?_append_right (l₁ := (encL cRef rs).take (k * 2)) (by omega), e2, Nat.add_sub_cancel_left]
      rcases hj with rfl | rfl
      · rw [List.getElem?_append_left (by omega), List.getElem?_take, if_pos (by omega), hg 0 (by omega)]; rfl
      · rw [List.getElem?_append_right (by omega), e1, Nat.sub_self]; rfl
    · rw [List.getElem?_append_right (by simp; omega), List.getElem?_append_right (by simp; omega), List.getElem?_drop, List.getElem?_drop]
      congr 1
      simp; omega
theorem set_midR {α : Type} (rs1 rs : List α) (k : Nat) (q : α) (h : rs1.length = k) (hk : k < rs.length) : (rs1 ++ rs.drop k).set k q = (rs1 ++ [q]) ++ rs.drop (k + 1) := by
  rw [List.set_append_right _ _ (by omega), h, Nat.sub_self, List.append_assoc]
  congr 1
  rw [List.drop_eq_getElem_cons hk, List.set_cons_zero]; rfl
theorem splice_allR {xs vs : List Value} (h : vs.length = xs.length) : splice xs (0 * 2) vs = vs := by
  unfold splice
  rw [Nat.zero_mul, List.take_zero, List.nil_append, Nat.zero_add, List.drop_of_length_le (by omega), List.append_nil]
theorem Sl.cutR {α : Type} {d : Ty α} {R : Nat → Prop} {w : World} {a : Option Addr} {n c : Nat} {xs : List α} (h : Sl d R w a n c xs) (m : Nat) (hm : m ≤ n) : Sl d R w a m c (xs.take m) := by
  obtain ⟨h1, h2, h3, s⟩ := h
  have hl := s.len
  refine ⟨by omega, h2, h3, ⟨by rw [List.length_take]; omega, fun ha => by have := s.nil ha; omega, fun hp => s.plain (by omega), fun b o ha hp => s.reg b o ha (by omega), fun i x hx => ?_⟩⟩
  rw [List.getElem?_take] at hx
  split at hx
  · exact s.el i x hx
  · cases hx
def cutH (r : RH) : RH := (r.1, r.2.take 60)
def ownL (l : List RH) : List RH := (l.take 30).map cutH
theorem ownL_succ {l : List RH} {k : Nat} {x : RH} (hx : l[k]? = some x) : ownL (l.take (k + 1)) = if k < 30 then ownL (l.take k) ++ [cutH x] else ownL (l.take k) := by
  unfold ownL
  rw [List.take_take, List.take_take]
  by_cases h : k < 30
  · rw [if_pos h, Nat.min_eq_right (by omega), Nat.min_eq_right (by omega), List.take_add_one, hx, List.map_append]; rfl
  · rw [if_neg h, Nat.min_eq_left (by omega), Nat.min_eq_left (by omega)]
theorem ownL_len (l : List RH) : (ownL l).length ≤ 30 := by unfold ownL; rw [List.length_map, List.length_take]; omega
theorem ownL_tot (l : List RH) : tot (ownL l) ≤ 1800 := by
  have key : ∀ m : List RH, tot (m.map cutH) ≤ 60 * m.length := by
    intro m
    unfold tot
    induction m with
    | nil => simp
    | cons x m ih =>
      rw [List.map_cons, List.flatMap_cons, List.length_append, List.length_cons]
      have : (cutH x).2.length ≤ 60 := by unfold cutH; simp only [List.length_take]; omega
      omega
  have h1 := key (l.take 30)
  rw [List.length_take] at h1
  unfold ownL
  omega
attribute [local irreducible] Hold J JL JD JX JXat OpR OpG Ret RetV Is Blk Row MapC
set_option maxRecDepth 100000
set_option maxHeartbeats 1000000
theorem cloneH_r (w : World) (a : Option Addr) (n c : Nat) (xs : List HH) (h : Sl dHeld All w a n c xs) (hn : n ≤ 4000000) :
    Ret Tryz.prog 69 #[.slice a n c] w fun v w' => ∃ a' c', v = .slice a' n c' ∧ Fresh w w' [RowH a' n c' xs] := by
  refine Ret_of (l := [_]) Tryz.func69 rfl Tryz.ntmps69 (by simp) ?_
  have hs := St.init w
  obtain ⟨hsrc, hpl, _⟩ := h.srcF
  have hl := h.len
  cases a with
  | none =>
    have hn0 := hsrc.2.1 rfl
    subst hn0
    have : xs = [] := List.eq_nil_of_length_eq_zero (by omega)
    subst this
    repeat' (first
      | (apply JL_nil)
      | ((apply JL_pure); (first
      | (apply as_move; exact OpR_move rfl is_rfl)
      | (apply as_assign; exact OpR_assign rfl is_rfl)
      | (apply as_binOp; exact OpR_eqNil rfl rfl is_rfl)); first | (exact rfl; exact rfl) | exact rfl)
      | (apply J_seq)
      | (apply J_region)
      | (apply aj_cond; refine J_cond_t rfl gb ?_))
    have hs := hs.nilRow 31 2
    refine J_leave Tryz.func69 rfl (.tmp rfl .nil) ⟨_, _, rfl, hs.out (List.Sublist.refl _)⟩
  | some ad =>
    repeat' (first
      | ((apply al_none; refine JL_o (by apply as_buildSlice; exact OpR_buildSlice hs rfl (by omega) rfl) rfl rfl ?_; rintro _ _ ⟨b, rfl, hb, hs, hE⟩; have hs := hs.toRow 0 0 0 2 (xs := []) (Nat.le_refl _) (by unfold maxLen; omega) (by simp) rfl))
      | ((apply al_none; refine JL_o (by apply as_b_append; exact OpR_append hs rfl rfl (Src.st hsrc hs) hpl rfl (by omega) (by unfold maxLen; omega)) rfl rfl ?_; rintro _ _ ⟨a2, c2, rfl, hs, hF, hnil⟩; rw [Nat.zero_add] at hs ⊢; rw [List.nil_append] at hs))
      | (apply JL_nil)
      | ((apply JL_pure); (first
      | (apply as_move; exact OpR_move rfl is_rfl)
      | (apply as_assign; exact OpR_assign rfl is_rfl)
      | (apply as_binOp; exact OpR_eqNil rfl rfl is_rfl)); first | (exact rfl; exact rfl) | exact rfl)
      | (apply J_seq)
      | (apply J_region)
      | (apply J_skip)
      | (apply aj_cond; refine J_cond_f rfl gb ?_))
    refine J_leave Tryz.func69 rfl (.tmp rfl .nil) ⟨_, _, rfl, hs.out (.cons_cons _ (List.nil_sublist _))⟩
theorem rown_r (w : World) (a : Option Addr) (n c : Nat) (l : List RH) (h : Sl dRef All w a n c l) (hn : n ≤ 1000000) (hb : tot l ≤ 1000000) :
    Ret Tryz.prog 86 #[.slice a n c] w fun v w' => ∃ (qs : List QR) (a' : Option Addr), (qs.map meanQ = l ∧ ∀ q ∈ qs, okQ q) ∧ v = .slice a' n n ∧ Fresh w w' [TabQ a' n n (qs.map rawQ), OwnQ qs] := by
  refine Ret_of (l := [_]) Tryz.func86 rfl Tryz.ntmps86 (by simp) ?_
  have hs := St.init w
  obtain ⟨rs, hr, hm⟩ := Sl.raw (D := rawRef) h
  obtain ⟨hsrc, hpl, _⟩ := hr.srcF
  have hl := hr.len
  have hle := h.len
  have hlo := sl_okR h
  have hlE : (encL cRef rs).length = n * 2 := by have := encL_len (d := dRRef) rs; rw [hl] at this; exact this
  repeat' (first
    | ((apply al_none (t := 8); refine JL_o (by apply as_makeSlice; exact OpR_make hs rfl rfl (by omega) (by omega)) rfl rfl ?_; rintro _ _ ⟨b8, rfl, hb8, hs, hE⟩; have hs := hs.toRow 0 n n 2 (Nat.le_refl _) (by unfold maxLen; omega) (by simp [madeCells]) rfl))
    | ((apply al_none (t := 11); refine JL_o (by apply as_b_copy; exact OpR_copyN (sz := 2) (off := 0) (vs := encL cRef rs) (a := some ⟨b8, 0, none⟩) (n := n) (c := n) (by omega) hs rfl rfl (fun _ => rfl) (by omega) (by rw [Nat.min_self]; exact Src.st hsrc hs) (by rw [Nat.min_self]; exact hpl)) rfl rfl ?_; rintro _ _ ⟨rfl, hs, hF⟩; rw [splice_allR (by rw [hlE]; simp [madeCells])] at hs))
    | (apply JL_nil)
    | ((apply JL_pure); (first
      | (apply as_move; exact OpR_move rfl is_rfl)
      | (apply as_assign; exact OpR_assign rfl is_rfl)
      | (apply as_b_len; exact OpR_len rfl is_rfl)); first | (exact rfl; exact rfl) | exact rfl)
    | (apply J_seq)
    | (apply J_region)
    | (apply J_block))
  have hs := hs.nilQ
  refine J_loopK (α := Nat × List QR) [(3, _), (12, _), (13, _)] (fun g => [(14, .int .i64 g.1)]) (fun g w' => St w NoF w' [TabQ (some ⟨b8, 0, none⟩) n n (g.2.map rawQ ++ rs.drop g.1), OwnQ g.2] ∧ (g.2.length = g.1 ∧ g.1 ≤ n) ∧ g.2.map meanQ = l.take g.1 ∧ ∀ q ∈ g.2, okQ q) (fun g => n - g.1) (0, []) ⟨hs.sel [1, 0] (by decide), ⟨rfl, Nat.zero_le _⟩, rfl, (fun q hq => by cases hq)⟩ (by repeat' (first | exact trivial | exact rfl | apply And.intro)) ?_
  rintro ⟨k, qs⟩ w2 ⟨hs1, ⟨hql, hk⟩, hqm, hqo⟩ ih
  dsimp only at hs1 hql hk hqm hqo ih ⊢
  have hs : St w NoF w2 [_, _] := hs1
  have hrl : (qs.map rawQ).length = k := by rw [List.length_map, hql]
  by_cases hlt : k < n
  · have hx : l[k]? = some (l[k]'(by omega)) := List.getElem?_eq_getElem (by omega)
    obtain ⟨x, hxd⟩ : ∃ x, x = l[k]'(by omega) := ⟨_, rfl⟩
    rw [← hxd] at hx
    have hxm := List.mem_of_getElem? hx
    obtain ⟨r, hrx, e1, e2⟩ := hm.get hx
    have e1 : r.1 = x.1 := e1
    have mx : Sl dHeld All w r.2.1 r.2.2.1 r.2.2.2 x.2 := e2
    have mlen := mx.len
    have htr := tot_row hxm
    have hcur : (qs.map rawQ ++ rs.drop k)[k]? = some r := by rw [List.getElem?_append_right (by omega), hrl, Nat.sub_self, List.getElem?_drop, Nat.add_zero]; exact hrx
    have hld : ∀ (q : Nat) (u : Value), (cRef r)[q]? = some u → (encL cRef (qs.map rawQ ++ rs.drop k))[k * 2 + q]? = some u := fun q u hq => by
      have hq3 : q < 2 := (List.getElem?_eq_some_iff.1 hq).1
      rw [show (encL cRef (qs.map rawQ ++ rs.drop k))[k * 2 + q]? = (cRef r)[q]? from encL_get (d := dRRef) (qs.map rawQ ++ rs.drop k) k q r hcur hq3]; exact hq
    repeat' (first
      | ((apply al_call 69; refine JL_o (by exact OpR_callF en69 rfl (cloneH_r _ r.2.1 r.2.2.1 r.2.2.2 x.2 (mx.st hs) (by omega))) rfl rfl ?_; rintro _ _ ⟨a3, c3, rfl, hf⟩; have hs := hs.fresh hf; (try simp only [List.cons_append, List.nil_append] at hs)))
      | ((apply al_unit; have hset := (encR_set1 (qs.map rawQ ++ rs.drop k) k r (a3, r.2.2.1, c3) hcur).trans (congrArg (encL cRef) (set_midR (qs.map rawQ) rs k (r.1, (a3, r.2.2.1, c3)) hrl (by omega))); refine JL_u (by apply as_store; exact OpR_storeN (b := b8) (o := 0) (off := k * 2 + 1) (n := n) (c := n) (vs := [.slice a3 r.2.2.1 c3]) hs rfl rfl rfl rfl (by simp [Value.oneCell']) (by show k * 2 + 1 + 1 ≤ n * 2; omega)) rfl ?_; rintro _ _ ⟨hs, hF⟩; rw [hset] at hs))
      | (apply JL_nil)
      | ((apply JL_pure); (first
      | (apply as_load; first | exact OpR_load' hs rfl rfl is_rfl | exact OpR_load_agg' hs rfl is_rfl | exact OpR_loadN (b := b8) (o := 0) (off := k * 2) (n := n) (c := n) hs rfl rfl hld is_rfl)
      | (apply as_move; exact OpR_move rfl is_rfl)
      | (apply as_assign; exact OpR_assign rfl is_rfl)
      | (apply as_fieldAddr; first | exact OpR_fieldAddr0 rfl rfl is_rfl | exact OpR_fieldAddr rfl rfl is_rfl)
      | (apply as_add; exact OpR_addn rfl rfl (by omega) (by first | (simp only [Int.reduceAdd]; exact rfl) | exact rfl) is_rfl)
      | (apply as_binOp; exact OpR_ibin rfl rfl rfl is_rfl)
      | (apply as_indexAddr; exact OpR_indexAddr rfl rfl (by omega) (by omega) is_rfl)); first | (exact rfl; exact rfl) | exact rfl)
      | (apply J_seq)
      | (apply J_region)
      | (apply J_block)
      | (apply J_inBlock)
      | (apply J_skip)
      | (apply al_none (t := 5); refine JL_o (by apply as_alloc; exact OpR_alloc' hs) rfl rfl ?_; rintro _ _ ⟨b5, rfl, hb5, hs, hE⟩)
      | (apply al_unit; refine JL_u (by apply as_store; exact OpR_store' hs rfl rfl rfl) rfl ?_; rintro _ _ ⟨hs, hF⟩)
      | (apply aj_cond; refine J_dec_t rfl ob ?_))
    have hs : St w NoF _ (rowQ (r.1, (a3, r.2.2.1, c3), x.2) :: OwnQ qs :: [TabQ (some ⟨b8, 0, none⟩) n n (qs.map rawQ ++ [(r.1, (a3, r.2.2.1, c3))] ++ rs.drop (k + 1))]) := hs.sel [0, 3, 2] (by decide)
    have hs := hs.pushQ
    refine ih (k + 1, qs ++ [(r.1, (a3, r.2.2.1, c3), x.2)]) _ _ ⟨by rw [List.map_append]; exact hs.sel [1, 0] (by decide), ⟨by show (qs ++ [_]).length = _; rw [List.length_append, hql]; rfl, hlt⟩, ?_, ?_⟩ (by show n - (k + 1) < n - k; omega) (by repeat' (first | exact trivial | exact rfl | apply And.intro))
    · show (qs ++ [_]).map meanQ = _
      rw [List.map_append, hqm, List.take_add_one, hx]
      show _ ++ [(r.1, x.2)] = _ ++ [x]
      rw [e1]
    · intro q hq
      rcases List.mem_append.1 hq with e | e
      · exact hqo q e
      · rw [List.mem_singleton.1 e]
        exact ⟨by show inK .i64 r.1; rw [e1]; exact (hlo x hxm).1, mlen.symm, (hlo x hxm).2⟩
  · rw [List.drop_of_length_le (by omega), List.append_nil] at hs
    rw [List.take_of_length_le (by omega)] at hqm
    repeat' (first
      | (apply JL_nil)
      | ((apply JL_pure); (first
      | (apply as_move; exact OpR_move rfl is_rfl)
      | (apply as_assign; exact OpR_assign rfl is_rfl)
      | (apply as_binOp; exact OpR_ibin rfl rfl rfl is_rfl)); first | (exact rfl; exact rfl) | exact rfl)
      | (apply J_seq)
      | (apply J_region)
      | (apply aj_exit; refine J_exit rfl ?_)
      | (apply aj_cond; refine J_dec_f rfl ob ?_))
    refine J_leave Tryz.func86 rfl (.tmp rfl .nil) ⟨qs, _, ⟨hqm, hqo⟩, rfl, hs.out (List.Sublist.refl _)⟩
theorem rlown_r (w : World) (a : Option Addr) (n c : Nat) (l : List RH) (h : Sl dRef All w a n c l) :
    Ret Tryz.prog 11 #[.slice a n c] w fun v w' => ∃ (qs : List QR) (a' : Option Addr) (c' : Nat), (qs.map meanQ = ownL l ∧ ∀ q ∈ qs, okQ q) ∧ v = .slice a' qs.length c' ∧ Fresh w w' [TabQ a' qs.length c' (qs.map rawQ), OwnQ qs] := by
  refine Ret_of (l := [_]) Tryz.func11 rfl Tryz.ntmps11 (by simp) ?_
  have hs := St.init w
  obtain ⟨rs, hr, hm⟩ := Sl.raw (D := rawRef) h
  have hl := hr.len
  have hle := h.len
  have hlo := sl_okR h
  have hmx : n ≤ 9223372036854775807 := by have h1 := h.le; have h2 := h.cap; unfold maxLen at h2; omega
  repeat' (first
    | (apply JL_nil)
    | ((apply JL_pure); (first
      | (apply as_move; exact OpR_move rfl is_rfl)
      | (apply as_assign; exact OpR_assign rfl is_rfl)
      | (apply as_b_len; exact OpR_len rfl is_rfl)); first | (exact rfl; exact rfl) | exact rfl)
    | (apply J_seq)
    | (apply J_region)
    | (apply J_block))
  have hs := (hs.nilQ).nilRow 116 2
  refine J_loopK (α := Nat × List QR × Option Addr × Nat) [(6, _), (7, _)] (fun g => [(3, .slice g.2.2.1 g.2.1.length g.2.2.2), (8, .int .i64 g.1)]) (fun g w' => St w NoF w' [TabQ g.2.2.1 g.2.1.length g.2.2.2 (g.2.1.map rawQ), OwnQ g.2.1] ∧ g.1 ≤ n ∧ g.2.1.map meanQ = ownL (l.take g.1) ∧ ∀ q ∈ g.2.1, okQ q) (fun g => n - g.1) (0, [], none, 0) ⟨hs, Nat.zero_le _, rfl, (fun q hq => by cases hq)⟩ (by repeat' (first | exact trivial | exact rfl | apply And.intro)) ?_
  rintro ⟨k, qs, a', c'⟩ w2 ⟨hs1, hk, hqm, hqo⟩ ih
  dsimp only at hs1 hk hqm hqo ih ⊢
  by_cases hlt : k < n
  · obtain ⟨p, o, rfl⟩ := hr.sl.addr (by omega)
    have hs : St w NoF w2 [_, _] := hs1
    have hx : l[k]? = some (l[k]'(by omega)) := List.getElem?_eq_getElem (by omega)
    obtain ⟨x, hxd⟩ : ∃ x, x = l[k]'(by omega) := ⟨_, rfl⟩
    rw [← hxd] at hx
    have hxm := List.mem_of_getElem? hx
    obtain ⟨r, hrx, e1, e2⟩ := hm.get hx
    have e1 : r.1 = x.1 := e1
    have mx : Sl dHeld All w r.2.1 r.2.2.1 r.2.2.2 x.2 := e2
    have hsu := ownL_succ hx
    have hql : qs.length ≤ 30 := by have := congrArg List.length hqm; rw [List.length_map] at this; rw [this]; exact ownL_len _
    by_cases h30 : k < 30
    · rw [if_pos h30] at hsu
      obtain ⟨q, hq⟩ : ∃ q, q = min r.2.2.1 60 := ⟨_, rfl⟩
      have mcut := mx.cutR q (by omega)
      have hmn := mx.len
      have hmcap := mx.le
      have hmc := mx.cap
      unfold maxLen at hmc
      have htk : x.2.take q = x.2.take 60 := by rw [hq, ← hmn, List.take_eq_take_min (l := x.2) (i := 60), Nat.min_comm]
      rw [htk] at mcut
      have hcl := mcut.len
      have hsr : ∀ (a3 : Option Addr) (c3 : Nat), encL cRef (qs.map rawQ) ++ cRef (r.1, (a3, q, c3)) = encL cRef ((qs ++ [(r.1, (a3, q, c3), x.2.take 60)]).map rawQ) := fun a3 c3 => by rw [encR_snoc, List.map_append]; rfl
      repeat' (first
        | ((apply ax_c; apply JX_cF 69; exact rfl; (intro W X hN hs; exact OpR_callF en69 rfl (cloneH_r _ r.2.1 q r.2.2.2 (x.2.take 60) (mcut.st hs) (by omega))); (rintro _ _ _ _ ⟨a3, c3, rfl, hf⟩; first | exact hE | exact Fresh.ext hf); rintro W X _ _ hN hs ⟨a3, c3, rfl, hf⟩; have hs := hs.fresh hf; (try simp only [List.cons_append, List.nil_append] at hs); refine JX.at hs ?_))
        | ((apply al_none (t := 28); refine JL_o (by apply as_b_append; exact OpR_append (xs := encL cRef (qs.map rawQ)) (news := cRef (r.1, (a3, q, c3))) hs rfl rfl (src_blkR (r := (r.1, (a3, q, c3))) (hs.blk (b := b27))) plain_blk rfl (by omega) (by unfold maxLen; omega)) rfl rfl ?_; rintro _ _ ⟨a4, c4, rfl, hs, hF, hnil⟩; rw [hsr a3 c3] at hs))
        | (apply JL_nil)
        | ((first | (apply JL_pure) | (apply JX_f; exact rfl; intro W X hs)); (first
      | (apply as_slice; exact OpR_slice (kl := .i64) (kh := .i64) (km := .i64) (a' := r.2.1) (m := r.2.2.2) (h := min (r.2.2.1 : Int) 60) rfl (.inl ⟨rfl, rfl⟩) (.inr ⟨_, rfl, rfl⟩) (.inl ⟨rfl, rfl⟩) (by omega) (by omega) (by omega) (by omega) (by split; rfl; exact addr0 _) (by rw [show (min (r.2.2.1 : Int) 60 - 0).toNat = q by omega, Int.sub_zero, Int.toNat_natCast]; exact is_rfl))
      | (apply as_load; first | exact OpR_load' hs rfl rfl is_rfl | exact OpR_load_agg' hs rfl is_rfl | exact OpR_load_el (hr.st hs) hrx rfl rfl is_rfl)
      | (apply as_move; exact OpR_move rfl is_rfl)
      | (apply as_assign; exact OpR_assign rfl is_rfl)
      | (apply as_fieldAddr; exact OpR_fieldAddr0 rfl rfl is_rfl)
      | (apply as_add; exact OpR_addn rfl rfl (by omega) (by first | (simp only [Int.reduceAdd]; exact rfl) | exact rfl) is_rfl)
      | (apply as_binOp; exact OpR_ibin rfl rfl rfl is_rfl)
      | (apply as_b_len; exact OpR_len rfl is_rfl)
      | (apply as_b_min; exact OpR_min rfl rfl is_rfl)
      | (apply as_indexAddr; exact OpR_indexAddr rfl rfl (by omega) (by omega) is_rfl)
      | (apply as_build; exact OpR_build rfl (by (simp only [bld, placesOf, splice, Value.cells, List.take_succ_cons, List.take_zero, List.drop_succ_cons, List.drop_zero, List.cons_append, List.nil_append, List.length_cons, List.length_nil, List.getElem?_cons_zero, List.getElem?_cons_succ, Option.map_some, List.append_nil, Nat.reduceAdd, Nat.reduceMul, Nat.zero_add, Nat.reduceLeDiff, and_self, if_true, List.toList_toArray, Nat.le_refl, Nat.zero_mul, Nat.one_mul]; first | done | rfl)) is_rfl)); first | (exact rfl; exact rfl) | exact rfl)
        | (apply J_seq)
        | (apply J_region)
        | (apply J_block)
        | (apply J_inBlock)
        | (apply J_skip)
        | (apply al_none (t := 5); refine JL_o (by apply as_alloc; exact OpR_alloc' hs) rfl rfl ?_; rintro _ _ ⟨b5, rfl, hb5, hs, hE⟩)
        | (apply ax_n; refine JX_n (t := 27) rfl (fun W L hs => by apply as_buildSlice; exact OpR_buildSlice hs rfl (by omega) rfl) rfl ?_)
        | (apply ax_k; (first | refine JX_k (t := 27) ?_ | refine JX_k2 (t := 27) rfl ?_); intro b27)
        | (apply al_unit; refine JL_u (by apply as_store; exact OpR_store' hs rfl rfl rfl) rfl ?_; rintro _ _ ⟨hs, hF⟩)
        | (apply aj_cond; refine J_dec_t rfl ob ?_)
        | (apply aj_draw; (refine J_drawX (id := 6) [0, 0, 2, 0, 8, 0, 32, 96, 224, 504, 1016, 2046, 4094, 8191, 16383] [(0, 0), (1, 0), (2, 0), (3, 0), (4, 0), (5, 0), (6, 0), (7, 0), (8, 0), (9, 0), (10, 1), (11, 0), (12, 2), (12, 3)] [13, 14] hs mixed (by kernel_rfl) (by kernel_rfl) (by kernel_rfl) (by kernel_rfl) (by kernel_rfl) ?_))
        | (refine JX_done (fun W hs => ?_))
        | (apply JD_tail; case' hos => (simp only [List.map_cons, List.map_nil, List.getElem?_toArray, List.getElem?_cons_succ, List.getElem?_cons_zero]; repeat' (first | exact ms_nil | apply ms_cons))))
      have hs : St w NoF _ (rowQ (r.1, (a3, q, c3), x.2.take 60) :: OwnQ qs :: [TabQ a4 (qs.length + 1) c4 ((qs ++ [(r.1, (a3, q, c3), x.2.take 60)]).map rawQ)]) := hs.sel [1, 4, 3] (by decide)
      have hs := hs.pushQ
      refine ih (k + 1, qs ++ [(r.1, (a3, q, c3), x.2.take 60)], a4, c4) _ _ ⟨by rw [List.length_append]; exact hs.sel [1, 0] (by decide), hlt, ?_, ?_⟩ (by show n - (k + 1) < n - k; omega) (by rw [List.length_append]; repeat' (first | exact trivial | exact rfl | apply And.intro))
      · show (qs ++ [_]).map meanQ = _
        rw [List.map_append, hqm, hsu]
        show _ ++ [(r.1, x.2.take 60)] = _ ++ [cutH x]
        unfold cutH
        rw [e1]
      · intro z hz
        rcases List.mem_append.1 hz with e | e
        · exact hqo z e
        · rw [List.mem_singleton.1 e]
          exact ⟨by show inK .i64 r.1; rw [e1]; exact (hlo x hxm).1, hcl.symm, fun y hy => (hlo x hxm).2 y (List.mem_of_mem_take hy)⟩
    · rw [if_neg h30] at hsu
      repeat' (first
        | (apply JL_nil)
        | ((apply JL_pure); (first
      | (apply as_load; first | exact OpR_load' hs rfl rfl is_rfl | exact OpR_load_agg' hs rfl is_rfl | exact OpR_load_el (hr.st hs) hrx rfl rfl is_rfl)
      | (apply as_move; exact OpR_move rfl is_rfl)
      | (apply as_assign; exact OpR_assign rfl is_rfl)
      | (apply as_add; exact OpR_addn rfl rfl (by omega) (by first | (simp only [Int.reduceAdd]; exact rfl) | exact rfl) is_rfl)
      | (apply as_binOp; exact OpR_ibin rfl rfl rfl is_rfl)
      | (apply as_indexAddr; exact OpR_indexAddr rfl rfl (by omega) (by omega) is_rfl)); first | (exact rfl; exact rfl) | exact rfl)
        | (apply J_seq)
        | (apply J_region)
        | (apply J_block)
        | (apply J_inBlock)
        | (apply J_skip)
        | (apply al_none (t := 5); refine JL_o (by apply as_alloc; exact OpR_alloc' hs) rfl rfl ?_; rintro _ _ ⟨b5, rfl, hb5, hs, hE⟩)
        | (apply al_unit; refine JL_u (by apply as_store; exact OpR_store' hs rfl rfl rfl) rfl ?_; rintro _ _ ⟨hs, hF⟩)
        | (apply aj_cond; first | refine J_dec_t rfl ob ?_ | refine J_dec_f rfl ob ?_))
      refine ih (k + 1, qs, a', c') _ _ ⟨hs.sel [1, 2] (by decide), hlt, by show qs.map meanQ = _; rw [hsu]; exact hqm, hqo⟩ (by show n - (k + 1) < n - k; omega) (by repeat' (first | exact trivial | exact rfl | apply And.intro))
  · have hs : St w NoF w2 [_, _] := hs1
    rw [List.take_of_length_le (by omega)] at hqm
    repeat' (first
      | (apply JL_nil)
      | ((apply JL_pure); (first
      | (apply as_move; exact OpR_move rfl is_rfl)
      | (apply as_assign; exact OpR_assign rfl is_rfl)
      | (apply as_binOp; exact OpR_ibin rfl rfl rfl is_rfl)); first | (exact rfl; exact rfl) | exact rfl)
      | (apply J_seq)
      | (apply J_region)
      | (apply aj_exit; refine J_exit rfl ?_)
      | (apply aj_cond; refine J_dec_f rfl ob ?_))
    refine J_leave Tryz.func11 rfl (.tmp rfl .nil) ⟨qs, _, _, ⟨hqm, hqo⟩, rfl, hs.out (List.Sublist.refl _)⟩
end Go.Eng
/- Referrers: slices.Insert. -/
namespace Go.Eng
open Go.Proofs
set_option linter.unusedSimpArgs false
set_option linter.unusedVariables false
theorem src_blkU {w : World} {b e : Nat} {u0 u1 : Value} {fz : Nat × Nat} (hu : ∀ u ∈ [u0, u1], u.oneCell' = true) (h : w.heap[b]? = some (.cells #[u0, u1] e fz)) : Src w (some ⟨b, 0, none⟩) 1 2 [u0, u1] := by
  refine ⟨rfl, fun h => (nomatch h), hu, fun b' o hb j u hj => ?_⟩
  cases hb
  exact cell_blk h (by rw [Nat.zero_add]; exact hj)
theorem row_blk_ne {w0 w : World} {F : Nat → Prop} {L : List HP} {b o n c e sz bv : Nat} {X : List Value} {ob : Obj} (hs : St w0 F w (Row (some ⟨b, o, none⟩) n c e sz X :: Blk bv ob :: L)) : bv ≠ b := fun h => by
  subst h
  exact (List.pairwise_cons.1 hs.sep).1 _ List.mem_cons_self bv rfl rfl
theorem overH_r (w : World) (bv b q lb cb tv e : Nat) (cv cur : Array Value) (hbv : w.heap[bv]? = some (.cells cv tv (0, 0))) (hb : w.heap[b]? = some (.cells cur e (0, 0))) (hne : bv ≠ b) (hc : cur.size ≠ 0) :
    RetV Tryz.prog (.func (.func 156) #[] #[]) #[.slice (some ⟨bv, 0, none⟩) 1 1, .slice (some ⟨b, q, none⟩) lb cb] w (fun v w' => v = .bool false ∧ Ext w w') := by
  refine RetV.ext (v := .bool false) ?_ ⟨rfl, Ext.refl _⟩
  rw [run_callFunc_extern Tryz.func156 (by kernel_rfl) (by kernel_rfl) (by kernel_rfl) (e := Extern.SlicesOverlaps.overlaps #[23, 23] #[4]) (by kernel_rfl),
    Lib.run_overlaps_apart w 23 4 31 Tryz.underlying23 2 Tryz.sizeOf31 ⟨bv, 0, none⟩ ⟨b, q, none⟩ 1 1 lb cb hne tv e cv.size cur.size (by simp [World.shape?, hbv]) (by simp [World.shape?, hb]) hc (by simp [World.frozen?, hbv]) (by simp [World.frozen?, hbv])]
  rfl
theorem overR_r (w : World) (bv b q lb cb tv e : Nat) (cv cur : Array Value) (hbv : w.heap[bv]? = some (.cells cv tv (0, 0))) (hb : w.heap[b]? = some (.cells cur e (0, 0))) (hne : bv ≠ b) (hc : cur.size ≠ 0) :
    RetV Tryz.prog (.func (.func 213) #[] #[]) #[.slice (some ⟨bv, 0, none⟩) 1 1, .slice (some ⟨b, q, none⟩) lb cb] w (fun v w' => v = .bool false ∧ Ext w w') := by
  refine RetV.ext (v := .bool false) ?_ ⟨rfl, Ext.refl _⟩
  rw [run_callFunc_extern Tryz.func213 (by kernel_rfl) (by kernel_rfl) (by kernel_rfl) (e := Extern.SlicesOverlaps.overlaps #[22, 22] #[4]) (by kernel_rfl),
    Lib.run_overlaps_apart w 22 4 116 Tryz.underlying22 2 Tryz.sizeOf116 ⟨bv, 0, none⟩ ⟨b, q, none⟩ 1 1 lb cb hne tv e cv.size cur.size (by simp [World.shape?, hbv]) (by simp [World.shape?, hb]) hc (by simp [World.frozen?, hbv]) (by simp [World.frozen?, hbv])]
  rfl
attribute [local irreducible] Hold J JL JD JX JXat OpR OpG Ret RetV Is Blk Row MapC
set_option maxRecDepth 100000
set_option maxHeartbeats 1000000
theorem insH_r (w : World) (a : Option Addr) (n c i : Nat) (cells : List Value) (u0 u1 : Value) (bv : Nat) (hh : Held w [Row a n c 31 2 cells, Blk bv (.cells #[u0, u1] 31 (0, 0))]) (hi : i ≤ n) (hn : n ≤ 1000000) (h1 : ∀ u ∈ cells, u.oneCell' = true) (hu : ∀ u ∈ [u0, u1], u.oneCell' = true) :
    Ret Tryz.prog 78 #[.slice a n c, .int .i64 i, .slice (some ⟨bv, 0, none⟩) 1 1] w fun v w' => ∃ a' c', v = .slice a' (n + 1) c' ∧ Turn w [Row a n c 31 2 cells, Blk bv (.cells #[u0, u1] 31 (0, 0))] w' [Row a' (n + 1) c' 31 2 (cells.take (i * 2) ++ [u0, u1] ++ cells.drop (i * 2))] := by
  refine Ret_of (l := [_, _, _]) Tryz.func78 rfl Tryz.ntmps78 (by simp) ?_
  have hs := hh.st
  have hrow := hs.row a n c
  have hl := hrow.len
  have hcap := hrow.2.1
  have hcm := hrow.2.2.1
  unfold maxLen at hcm
  by_cases hin : i = n
  · subst hin
    rw [List.take_of_length_le (by omega), List.drop_of_length_le (by omega), List.append_nil]
    repeat' (first
      | ((apply al_none (t := 25); refine JL_o (by apply as_b_append; exact OpR_append (xs := cells) (news := [u0, u1]) hs rfl rfl (src_blkU hu (hs.blk (b := bv))) plain_blk rfl (by omega) (by unfold maxLen; omega)) rfl rfl ?_; rintro _ _ ⟨a4, c4, rfl, hs, hF, hnil⟩))
      | (apply JL_nil)
      | ((apply JL_pure); (first
      | (apply as_slice; exact OpR_slice (kl := .i64) (kh := .i64) (km := .i64) (l := (i : Nat)) (m := c) (h := (i : Nat)) rfl (.inr ⟨_, rfl, rfl⟩) (.inl ⟨rfl, rfl, rfl⟩) (.inl ⟨rfl, rfl⟩) (by omega) (by omega) (by omega) (by omega) rfl is_rfl)
      | (apply as_move; exact OpR_move rfl is_rfl)
      | (apply as_assign; exact OpR_assign rfl is_rfl)
      | (apply as_binOp; exact OpR_ibin rfl rfl rfl is_rfl)
      | (apply as_b_len; exact OpR_len rfl is_rfl)); first | (exact rfl; exact rfl) | exact rfl)
      | (apply J_seq)
      | (apply J_region)
      | (apply J_skip)
      | (apply aj_cond; first | refine J_dec_t rfl ob ?_ | refine J_dec_f rfl ob ?_))
    refine J_leave Tryz.func78 rfl (.tmp rfl .nil) ⟨a4, c4, rfl, St.turned (M := [_]) hs⟩
  · obtain ⟨b, o, rfl⟩ := hrow.some (by omega)
    obtain ⟨g, o', cur, hgo, hg, hgs, hgt⟩ := hrow.2.2.2.resolve_left (fun h => by cases h.1)
    cases hgo
    by_cases hroom : n + 1 ≤ c
    · have hov : (n + 1 - (i + 1)) = n - i := by omega
      repeat' (first
        | ((apply al_none (t := 60); obtain ⟨ys, hyl, hs⟩ := hs.growRow (n + 1) (by omega) (by omega); refine JL_pure (v := .slice (some ⟨b, o, none⟩) (n + 1) c) (by apply as_slice; exact OpR_sliceHi (q := n + 1) rfl rfl (by omega) (by omega) is_rfl) rfl rfl ?_))
        | ((apply al_none (t := 67); obtain ⟨g2, o2, cur2, hgo2, hg2, hgs2, hgt2⟩ := (hs.row (some ⟨b, o, none⟩) (n + 1) c).2.2.2.resolve_left (fun h => by cases h.1); cases hgo2; refine JL_o (OpR_call rfl rfl (overH_r _ bv b _ _ _ 31 31 _ cur2 (hs.blk (b := bv)) hg2 (row_blk_ne hs) (by omega))) rfl rfl ?_; rintro _ _ ⟨rfl, hE⟩; have hs := hs.ext hE))
        | ((apply al_none (t := 77); refine JL_o (by apply as_b_copy; exact OpR_copyN (sz := 2) (off := i + 1) (vs := cells.drop (i * 2)) (a := some ⟨b, o, none⟩) (n := n + 1) (c := c) (by omega) hs rfl rfl (fun _ => by simp [add_eq]) (by omega) (by rw [show min (n + 1 - i) (n + 1 - (i + 1)) = n - i by omega]; have := (hs.row (some ⟨b, o, none⟩) (n + 1) c).srcDrop i (n - i) (zs := cells.drop (i * 2)) (by rw [List.drop_append_of_le_length (by omega), List.take_append_of_le_length (by rw [List.length_drop]; omega), List.take_of_length_le (by rw [List.length_drop]; omega)]) (fun u hu => h1 u (List.mem_of_mem_drop hu)) (by omega) (by omega); simpa [add_eq] using this) plain_blk) rfl rfl ?_; rintro _ _ ⟨rfl, hs, hF⟩))
        | ((apply al_none (t := 82); refine JL_o (by apply as_b_copy; exact OpR_copyN (sz := 2) (off := i) (vs := [u0, u1]) (a := some ⟨b, o, none⟩) (n := n + 1) (c := c) (by omega) hs rfl rfl (fun _ => by simp [add_eq]) (by omega) (by rw [show min 1 (n + 1 - i) = 1 by omega]; exact src_blkU hu (hs.blk (b := bv))) plain_blk) rfl rfl ?_; rintro _ _ ⟨rfl, hs, hF⟩))
        | (apply JL_nil)
        | ((first | (apply JL_pure) | (apply JX_f; exact rfl; intro W X hs)); (first
      | (apply as_b_cap; exact OpR_cap rfl is_rfl)
      | (apply as_slice; first | exact OpR_sliceLo (q := i) rfl rfl (by omega) (by omega) (by omega) (by omega) is_rfl | exact OpR_sliceLo (q := i + 1) rfl rfl (by omega) (by omega) (by omega) (by omega) is_rfl | exact OpR_sliceHi (q := i) rfl rfl (by omega) (by omega) is_rfl)
      | (apply as_move; exact OpR_move rfl is_rfl)
      | (apply as_assign; exact OpR_assign rfl is_rfl)
      | (apply as_add; exact OpR_addn rfl rfl (by omega) (by first | (simp only [Int.reduceAdd]; exact rfl) | exact rfl) is_rfl)
      | (apply as_binOp; exact OpR_ibin rfl rfl rfl is_rfl)
      | (apply as_unOp; exact OpR_not rfl is_rfl)
      | (apply as_b_len; exact OpR_len rfl is_rfl)); first | (exact rfl; exact rfl) | exact rfl)
        | (apply J_seq)
        | (apply J_region)
        | (apply J_skip)
        | (apply aj_cond; first | refine J_dec_f rfl ob ?_ | refine J_cond_t rfl gb ?_)
        | (apply aj_draw; (refine J_drawX (id := 15) [0, 0, 0, 6, 15, 0, 0, 96, 255] [(0, 0), (1, 0), (2, 0), (3, 0), (4, 0), (5, 0), (6, 0), (7, 0)] [8] hs mixed (by kernel_rfl) (by kernel_rfl) (by kernel_rfl) (by kernel_rfl) (by kernel_rfl) ?_))
        | (refine JX_done (fun W hs => ?_))
        | (apply JD_tail; case' hos => (simp only [List.map_cons, List.map_nil, List.getElem?_toArray, List.getElem?_cons_succ, List.getElem?_cons_zero]; repeat' (first | exact ms_nil | apply ms_cons))))
      rw [splice_shift (by omega) rfl (by omega) (by rw [hyl]; omega)] at hs
      refine J_leave Tryz.func78 rfl (.tmp rfl .nil) ⟨_, c, rfl, St.turned (M := [_]) hs⟩
    · have hcn : c = n := by omega
      subst hcn
      repeat' (first
        | ((apply al_none (t := 40); refine JL_o (by apply as_b_append; exact OpR_appendZ (sz := 2) (kn := .i64) (kq := .i64) (a := some ⟨b, o, none⟩) (n := c) (c := c) (i := i) (k := c + 1 - i) hs rfl (by rw [show ((c + 1 - i : Nat) : Int) = (c : Int) + 1 - (i : Int) by omega]; rfl) (by omega) (by omega) (by omega) (by omega) rfl (by omega) (by unfold maxLen; omega)) rfl rfl ?_; rintro _ _ ⟨b4, c4, zs, rfl, hzl, hs, hE⟩; have hc4 := (hs.row (some ⟨b4, 0, none⟩) (i + (c + 1 - i)) c4).2.1))
        | ((apply al_none (t := 45); refine JL_o (by apply as_b_copy; exact OpR_copyN (sz := 2) (off := i) (vs := [u0, u1]) (a := some ⟨b4, 0, none⟩) (n := i + (c + 1 - i)) (c := c4) (by omega) hs rfl rfl (fun _ => by simp [add_eq]) (by omega) (by rw [show min 1 (i + (c + 1 - i) - i) = 1 by omega]; exact src_blkU hu (hs.blk (b := bv))) plain_blk) rfl rfl ?_; rintro _ _ ⟨rfl, hs, hF⟩))
        | ((apply al_none (t := 54); refine JL_o (by apply as_b_copy; exact OpR_copyN (sz := 2) (off := i + 1) (vs := cells.drop (i * 2)) (a := some ⟨b4, 0, none⟩) (n := i + (c + 1 - i)) (c := c4) (by omega) hs rfl rfl (fun _ => by simp [add_eq]) (by omega) (by rw [show min (c - i) (i + (c + 1 - i) - (i + 1)) = c - i by omega]; have := (hs.row (some ⟨b, o, none⟩) c c).srcDrop i (c - i) (zs := cells.drop (i * 2)) (by rw [List.take_of_length_le (by rw [List.length_drop]; omega)]) (fun u hu => h1 u (List.mem_of_mem_drop hu)) (by omega) (by omega); simpa [add_eq] using this) plain_blk) rfl rfl ?_; rintro _ _ ⟨rfl, hs, hF⟩))
        | (apply JL_nil)
        | ((first | (apply JL_pure) | (apply JX_f; exact rfl; intro W X hs)); (first
      | (apply as_b_cap; exact OpR_cap rfl is_rfl)
      | (apply as_slice; first | exact OpR_sliceLo (q := i) rfl rfl (by omega) (by omega) (by omega) (by omega) is_rfl | exact OpR_sliceLo (q := i + 1) rfl rfl (by omega) (by omega) (by omega) (by omega) is_rfl | exact OpR_sliceHi (q := i) rfl rfl (by omega) (by omega) is_rfl)
      | (apply as_move; exact OpR_move rfl is_rfl)
      | (apply as_assign; exact OpR_assign rfl is_rfl)
      | (apply as_add; exact OpR_addn rfl rfl (by omega) (by first | (simp only [Int.reduceAdd]; exact rfl) | exact rfl) is_rfl)
      | (apply as_sub; exact OpR_sub rfl rfl (by omega) is_rfl)
      | (apply as_binOp; exact OpR_ibin rfl rfl rfl is_rfl)
      | (apply as_b_len; exact OpR_len rfl is_rfl)); first | (exact rfl; exact rfl) | exact rfl)
        | (apply J_seq)
        | (apply J_region)
        | (apply J_skip)
        | (apply aj_cond; first | refine J_dec_t rfl ob ?_ | refine J_dec_f rfl ob ?_)
        | (apply aj_draw; (refine J_drawX (id := 11) [0, 0, 0, 6, 15, 0, 0, 96, 255] [(0, 0), (1, 0), (2, 0), (3, 0), (4, 0), (5, 0), (6, 0), (7, 0)] [8] hs mixed (by kernel_rfl) (by kernel_rfl) (by kernel_rfl) (by kernel_rfl) (by kernel_rfl) ?_))
        | (refine JX_done (fun W hs => ?_))
        | (apply JD_tail; case' hos => (simp only [List.map_cons, List.map_nil, List.getElem?_toArray, List.getElem?_cons_succ, List.getElem?_cons_zero]; repeat' (first | exact ms_nil | apply ms_cons))))
      rw [splice_two (by rw [List.length_take]; omega) rfl (by omega) (by rw [List.length_drop, hzl]; omega), show i + (c + 1 - i) = c + 1 by omega] at hs
      refine J_leave Tryz.func78 rfl (.tmp rfl .nil) ⟨_, c4, by rw [show i + (c + 1 - i) = c + 1 by omega]; rfl, St.turned (M := [_, _]) hs⟩
theorem insR_r (w : World) (a : Option Addr) (n c i : Nat) (cells : List Value) (u0 u1 : Value) (bv : Nat) (hh : Held w [Row a n c 116 2 cells, Blk bv (.cells #[u0, u1] 116 (0, 0))]) (hi : i ≤ n) (hn : n ≤ 1000000) (h1 : ∀ u ∈ cells, u.oneCell' = true) (hu : ∀ u ∈ [u0, u1], u.oneCell' = true) :
    Ret Tryz.prog 153 #[.slice a n c, .int .i64 i, .slice (some ⟨bv, 0, none⟩) 1 1] w fun v w' => ∃ a' c', v = .slice a' (n + 1) c' ∧ Turn w [Row a n c 116 2 cells, Blk bv (.cells #[u0, u1] 116 (0, 0))] w' [Row a' (n + 1) c' 116 2 (cells.take (i * 2) ++ [u0, u1] ++ cells.drop (i * 2))] := by
  refine Ret_of (l := [_, _, _]) Tryz.func153 rfl Tryz.ntmps153 (by simp) ?_
  have hs := hh.st
  have hrow := hs.row a n c
  have hl := hrow.len
  have hcap := hrow.2.1
  have hcm := hrow.2.2.1
  unfold maxLen at hcm
  by_cases hin : i = n
  · subst hin
    rw [List.take_of_length_le (by omega), List.drop_of_length_le (by omega), List.append_nil]
    repeat' (first
      | ((apply al_none (t := 25); refine JL_o (by apply as_b_append; exact OpR_append (xs := cells) (news := [u0, u1]) hs rfl rfl (src_blkU hu (hs.blk (b := bv))) plain_blk rfl (by omega) (by unfold maxLen; omega)) rfl rfl ?_; rintro _ _ ⟨a4, c4, rfl, hs, hF, hnil⟩))
      | (apply JL_nil)
      | ((apply JL_pure); (first
      | (apply as_slice; exact OpR_slice (kl := .i64) (kh := .i64) (km := .i64) (l := (i : Nat)) (m := c) (h := (i : Nat)) rfl (.inr ⟨_, rfl, rfl⟩) (.inl ⟨rfl, rfl, rfl⟩) (.inl ⟨rfl, rfl⟩) (by omega) (by omega) (by omega) (by omega) rfl is_rfl)
      | (apply as_move; exact OpR_move rfl is_rfl)
      | (apply as_assign; exact OpR_assign rfl is_rfl)
      | (apply as_binOp; exact OpR_ibin rfl rfl rfl is_rfl)
      | (apply as_b_len; exact OpR_len rfl is_rfl)); first | (exact rfl; exact rfl) | exact rfl)
      | (apply J_seq)
      | (apply J_region)
      | (apply J_skip)
      | (apply aj_cond; first | refine J_dec_t rfl ob ?_ | refine J_dec_f rfl ob ?_))
    refine J_leave Tryz.func153 rfl (.tmp rfl .nil) ⟨a4, c4, rfl, St.turned (M := [_]) hs⟩
  · obtain ⟨b, o, rfl⟩ := hrow.some (by omega)
    obtain ⟨g, o', cur, hgo, hg, hgs, hgt⟩ := hrow.2.2.2.resolve_left (fun h => by cases h.1)
    cases hgo
    by_cases hroom : n + 1 ≤ c
    · have hov : (n + 1 - (i + 1)) = n - i := by omega
      repeat' (first
        | ((apply al_none (t := 60); obtain ⟨ys, hyl, hs⟩ := hs.growRow (n + 1) (by omega) (by omega); refine JL_pure (v := .slice (some ⟨b, o, none⟩) (n + 1) c) (by apply as_slice; exact OpR_sliceHi (q := n + 1) rfl rfl (by omega) (by omega) is_rfl) rfl rfl ?_))
        | ((apply al_none (t := 67); obtain ⟨g2, o2, cur2, hgo2, hg2, hgs2, hgt2⟩ := (hs.row (some ⟨b, o, none⟩) (n + 1) c).2.2.2.resolve_left (fun h => by cases h.1); cases hgo2; refine JL_o (OpR_call rfl rfl (overR_r _ bv b _ _ _ 116 116 _ cur2 (hs.blk (b := bv)) hg2 (row_blk_ne hs) (by omega))) rfl rfl ?_; rintro _ _ ⟨rfl, hE⟩; have hs := hs.ext hE))
        | ((apply al_none (t := 77); refine JL_o (by apply as_b_copy; exact OpR_copyN (sz := 2) (off := i + 1) (vs := cells.drop (i * 2)) (a := some ⟨b, o, none⟩) (n := n + 1) (c := c) (by omega) hs rfl rfl (fun _ => by simp [add_eq]) (by omega) (by rw [show min (n + 1 - i) (n + 1 - (i + 1)) = n - i by omega]; have := (hs.row (some ⟨b, o, none⟩) (n + 1) c).srcDrop i (n - i) (zs := cells.drop (i * 2)) (by rw [List.drop_append_of_le_length (by omega), List.take_append_of_le_length (by rw [List.length_drop]; omega), List.take_of_length_le (by rw [List.length_drop]; omega)]) (fun u hu => h1 u (List.mem_of_mem_drop hu)) (by omega) (by omega); simpa [add_eq] using this) plain_blk) rfl rfl ?_; rintro _ _ ⟨rfl, hs, hF⟩))
        | ((apply al_none (t := 82); refine JL_o (by apply as_b_copy; exact OpR_copyN (sz := 2) (off := i) (vs := [u0, u1]) (a := some ⟨b, o, none⟩) (n := n + 1) (c := c) (by omega) hs rfl rfl (fun _ => by simp [add_eq]) (by omega) (by rw [show min 1 (n + 1 - i) = 1 by omega]; exact src_blkU hu (hs.blk (b := bv))) plain_blk) rfl rfl ?_; rintro _ _ ⟨rfl, hs, hF⟩))
        | (apply JL_nil)
        | ((first | (apply JL_pure) | (apply JX_f; exact rfl; intro W X hs)); (first
      | (apply as_b_cap; exact OpR_cap rfl is_rfl)
      | (apply as_slice; first | exact OpR_sliceLo (q := i) rfl rfl (by omega) (by omega) (by omega) (by omega) is_rfl | exact OpR_sliceLo (q := i + 1) rfl rfl (by omega) (by omega) (by omega) (by omega) is_rfl | exact OpR_sliceHi (q := i) rfl rfl (by omega) (by omega) is_rfl)
      | (apply as_move; exact OpR_move rfl is_rfl)
      | (apply as_assign; exact OpR_assign rfl is_rfl)
      | (apply as_add; exact OpR_addn rfl rfl (by omega) (by first | (simp only [Int.reduceAdd]; exact rfl) | exact rfl) is_rfl)
      | (apply as_binOp; exact OpR_ibin rfl rfl rfl is_rfl)
      | (apply as_unOp; exact OpR_not rfl is_rfl)
      | (apply as_b_len; exact OpR_len rfl is_rfl)); first | (exact rfl; exact rfl) | exact rfl)
        | (apply J_seq)
        | (apply J_region)
        | (apply J_skip)
        | (apply aj_cond; first | refine J_dec_f rfl ob ?_ | refine J_cond_t rfl gb ?_)
        | (apply aj_draw; (refine J_drawX (id := 15) [0, 0, 0, 6, 15, 0, 0, 96, 255] [(0, 0), (1, 0), (2, 0), (3, 0), (4, 0), (5, 0), (6, 0), (7, 0)] [8] hs mixed (by kernel_rfl) (by kernel_rfl) (by kernel_rfl) (by kernel_rfl) (by kernel_rfl) ?_))
        | (refine JX_done (fun W hs => ?_))
        | (apply JD_tail; case' hos => (simp only [List.map_cons, List.map_nil, List.getElem?_toArray, List.getElem?_cons_succ, List.getElem?_cons_zero]; repeat' (first | exact ms_nil | apply ms_cons))))
      rw [splice_shift (by omega) rfl (by omega) (by rw [hyl]; omega)] at hs
      refine J_leave Tryz.func153 rfl (.tmp rfl .nil) ⟨_, c, rfl, St.turned (M := [_]) hs⟩
    · have hcn : c = n := by omega
      subst hcn
      repeat' (first
        | ((apply al_none (t := 40); refine JL_o (by apply as_b_append; exact OpR_appendZ (sz := 2) (kn := .i64) (kq := .i64) (a := some ⟨b, o, none⟩) (n := c) (c := c) (i := i) (k := c + 1 - i) hs rfl (by rw [show ((c + 1 - i : Nat) : Int) = (c : Int) + 1 - (i : Int) by omega]; rfl) (by omega) (by omega) (by omega) (by omega) rfl (by omega) (by unfold maxLen; omega)) rfl rfl ?_; rintro _ _ ⟨b4, c4, zs, rfl, hzl, hs, hE⟩; have hc4 := (hs.row (some ⟨b4, 0, none⟩) (i + (c + 1 - i)) c4).2.1))
        | ((apply al_none (t := 45); refine JL_o (by apply as_b_copy; exact OpR_copyN (sz := 2) (off := i) (vs := [u0, u1]) (a := some ⟨b4, 0, none⟩) (n := i + (c + 1 - i)) (c := c4) (by omega) hs rfl rfl (fun _ => by simp [add_eq]) (by omega) (by rw [show min 1 (i + (c + 1 - i) - i) = 1 by omega]; exact src_blkU hu (hs.blk (b := bv))) plain_blk) rfl rfl ?_; rintro _ _ ⟨rfl, hs, hF⟩))
        | ((apply al_none (t := 54); refine JL_o (by apply as_b_copy; exact OpR_copyN (sz := 2) (off := i + 1) (vs := cells.drop (i * 2)) (a := some ⟨b4, 0, none⟩) (n := i + (c + 1 - i)) (c := c4) (by omega) hs rfl rfl (fun _ => by simp [add_eq]) (by omega) (by rw [show min (c - i) (i + (c + 1 - i) - (i + 1)) = c - i by omega]; have := (hs.row (some ⟨b, o, none⟩) c c).srcDrop i (c - i) (zs := cells.drop (i * 2)) (by rw [List.take_of_length_le (by rw [List.length_drop]; omega)]) (fun u hu => h1 u (List.mem_of_mem_drop hu)) (by omega) (by omega); simpa [add_eq] using this) plain_blk) rfl rfl ?_; rintro _ _ ⟨rfl, hs, hF⟩))
        | (apply JL_nil)
        | ((first | (apply JL_pure) | (apply JX_f; exact rfl; intro W X hs)); (first
      | (apply as_b_cap; exact OpR_cap rfl is_rfl)
      | (apply as_slice; first | exact OpR_sliceLo (q := i) rfl rfl (by omega) (by omega) (by omega) (by omega) is_rfl | exact OpR_sliceLo (q := i + 1) rfl rfl (by omega) (by omega) (by omega) (by omega) is_rfl | exact OpR_sliceHi (q := i) rfl rfl (by omega) (by omega) is_rfl)
      | (apply as_move; exact OpR_move rfl is_rfl)
      | (apply as_assign; exact OpR_assign rfl is_rfl)
      | (apply as_add; exact OpR_addn rfl rfl (by omega) (by first | (simp only [Int.reduceAdd]; exact rfl) | exact rfl) is_rfl)
      | (apply as_sub; exact OpR_sub rfl rfl (by omega) is_rfl)
      | (apply as_binOp; exact OpR_ibin rfl rfl rfl is_rfl)
      | (apply as_b_len; exact OpR_len rfl is_rfl)); first | (exact rfl; exact rfl) | exact rfl)
        | (apply J_seq)
        | (apply J_region)
        | (apply J_skip)
        | (apply aj_cond; first | refine J_dec_t rfl ob ?_ | refine J_dec_f rfl ob ?_)
        | (apply aj_draw; (refine J_drawX (id := 11) [0, 0, 0, 6, 15, 0, 0, 96, 255] [(0, 0), (1, 0), (2, 0), (3, 0), (4, 0), (5, 0), (6, 0), (7, 0)] [8] hs mixed (by kernel_rfl) (by kernel_rfl) (by kernel_rfl) (by kernel_rfl) (by kernel_rfl) ?_))
        | (refine JX_done (fun W hs => ?_))
        | (apply JD_tail; case' hos => (simp only [List.map_cons, List.map_nil, List.getElem?_toArray, List.getElem?_cons_succ, List.getElem?_cons_zero]; repeat' (first | exact ms_nil | apply ms_cons))))
      rw [splice_two (by rw [List.length_take]; omega) rfl (by omega) (by rw [List.length_drop, hzl]; omega), show i + (c + 1 - i) = c + 1 by omega] at hs
      refine J_leave Tryz.func153 rfl (.tmp rfl .nil) ⟨_, c4, by rw [show i + (c + 1 - i) = c + 1 by omega]; rfl, St.turned (M := [_, _]) hs⟩
end Go.Eng
/- Referrers: slices.Delete, slices.DeleteFunc. -/
namespace Go.Eng
open Go.Proofs
set_option linter.unusedSimpArgs false
set_option linter.unusedVariables false
theorem star_row {a : Option Addr} {n c e sz k : Nat} {xs : List Value} (h : (Star [Row a n c e sz xs]).foot k) : afoot a k := by
  obtain ⟨d, hd, hk⟩ := h
  rw [List.mem_singleton.1 hd] at hk
  exact hk
theorem keep_succ {α : Type} {l : List α} {k : Nat} {x : α} (p : α → Bool) (hx : l[k]? = some x) : (l.take (k + 1)).filter (fun x => !p x) = (l.take k).filter (fun x => !p x) ++ if p x then [] else [x] := by
  rw [List.take_add_one, hx, List.filter_append]
  congr 1
  by_cases h : p x = true
  · simp [h]
  · simp [h]
abbrev dId : Ty Int := tInt .u64
abbrev cId (x : Int) : List Value := [.int .u64 x]
abbrev okId (x : Int) : Prop := inK .u64 x
attribute [local irreducible] Hold J JL JD JX JXat OpR OpG Ret RetV Is Blk Row MapC
set_option maxRecDepth 100000
set_option maxHeartbeats 1000000
theorem deleteR_r (w : World) (a : Option Addr) (n c k : Nat) (X : List Value) (hh : Held w [Row a n c 116 2 X]) (hk : k < n) (hn : n ≤ 1000000) (h1 : ∀ u ∈ X, u.oneCell' = true) :
    Ret Tryz.prog 154 #[.slice a n c, .int .i64 k, .int .i64 ((k : Int) + 1)] w fun v w' => v = .slice a (n - 1) c ∧ Turn w [Row a n c 116 2 X] w' [Row a (n - 1) c 116 2 (X.take (k * 2) ++ X.drop ((k + 1) * 2))] := by
  refine Ret_of (l := [_, _, _]) Tryz.func154 rfl Tryz.ntmps154 (by simp) ?_
  have hs := hh.st
  have hrow := hs.row a n c
  have hl := hrow.len
  have hcap := hrow.2.1
  have hcm := hrow.2.2.1
  unfold maxLen at hcm
  obtain ⟨b, o, rfl⟩ := hrow.some (by omega)
  have hm : k + (n - (k + 1)) = n - 1 := by omega
  by_cases hcq : k + 1 < c
  · by_cases hkn : k + 1 < n
    · repeat' (first
        | ((apply al_none (t := 13); refine JL_pure (v := .slice (some ⟨b, o + k * 2, none⟩) 1 (n - k)) (by apply as_slice; exact OpR_slice (kl := .i64) (kh := .i64) (km := .i64) (a' := some ⟨b, o + k * 2, none⟩) (l := (k : Nat)) (h := (k : Int) + 1) (m := (n : Nat)) rfl (.inr ⟨_, rfl, rfl⟩) (.inr ⟨_, rfl, rfl⟩) (.inr ⟨_, rfl, rfl⟩) (by omega) (by omega) (by omega) (by omega) (by rw [if_neg (by omega)]; simp [add_eq]) (by rw [show ((k : Int) + 1 - (k : Int)).toNat = 1 by omega, show ((n : Int) - (k : Int)).toNat = n - k by omega]; exact is_rfl)) rfl rfl ?_))
        | ((apply al_none (t := 26); have hsrc := (hs.row (some ⟨b, o, none⟩) n c).srcDrop (k + 1) (n - (k + 1)) (zs := X.drop ((k + 1) * 2)) (by rw [List.take_of_length_le (by rw [List.length_drop]; omega)]) (fun u hu => h1 u (List.mem_of_mem_drop hu)) (by omega) (by omega); simp only [Option.map_some, add_eq] at hsrc; have hs := hs.cutRow k c (by omega) (by omega) (Nat.le_refl _); refine JL_o (by apply as_b_append; exact OpR_appendR (n := k) (m := n - (k + 1)) hs rfl rfl hsrc plain_blk (by omega)) rfl rfl ?_; rintro _ _ ⟨rfl, hs, hF⟩))
        | ((apply al_none (t := 31); rw [hm] at hs ⊢; obtain ⟨ys, hyl, hs⟩ := hs.growRow n (by omega) (by omega); refine JL_pure (v := .slice (some ⟨b, o + (n - 1) * 2, none⟩) 1 (c - (n - 1))) (by apply as_slice; exact OpR_slice (kl := .i64) (kh := .i64) (km := .i64) (a' := some ⟨b, o + (n - 1) * 2, none⟩) (l := (n - 1 : Nat)) (h := (n : Nat)) (m := (c : Nat)) rfl (.inr ⟨_, rfl, rfl⟩) (.inr ⟨_, rfl, rfl⟩) (.inl ⟨rfl, rfl⟩) (by omega) (by omega) (by omega) (by omega) (by rw [if_neg (by omega)]; simp [add_eq]) (by rw [show ((n : Int) - ((n - 1 : Nat) : Int)).toNat = 1 by omega, show ((c : Int) - ((n - 1 : Nat) : Int)).toNat = c - (n - 1) by omega]; exact is_rfl)) rfl rfl ?_))
        | ((apply al_unit; refine JL_u (by apply as_b_clear; exact OpR_clear (a := some ⟨b, o, none⟩) (off := n - 1) (n := n) (c := c) (sz := 2) hs rfl rfl (by decide) (fun _ => by simp [add_eq]) (by omega)) rfl ?_; rintro _ _ ⟨rfl, ⟨zs, hzl, hs⟩, hF⟩))
        | (apply JL_nil)
        | ((first | (apply JL_pure) | (apply JX_f; exact rfl; intro W X hs)); (first
      | (apply as_slice; first | exact OpR_sliceHi (q := k) rfl rfl (by omega) (by omega) is_rfl | exact OpR_sliceLo (q := k + 1) rfl rfl (by omega) (by omega) (by omega) (by omega) is_rfl)
      | (apply as_move; exact OpR_move rfl is_rfl)
      | (apply as_assign; exact OpR_assign rfl is_rfl)
      | (apply as_binOp; exact OpR_ibin rfl rfl rfl is_rfl)
      | (apply as_b_len; exact OpR_len rfl is_rfl)); first | (exact rfl; exact rfl) | exact rfl)
        | (apply J_seq)
        | (apply J_region)
        | (apply J_skip)
        | (apply aj_cond; refine J_dec_f rfl ob ?_)
        | (apply aj_draw; (refine J_drawX (id := 5) [0, 0, 3, 0, 0, 24, 63, 127] [(0, 0), (1, 0), (2, 0), (3, 0), (4, 0), (5, 0)] [6, 7] hs mixed (by kernel_rfl) (by kernel_rfl) (by kernel_rfl) (by kernel_rfl) (by kernel_rfl) ?_))
        | (refine JX_done (fun W hs => ?_))
        | (apply JD_tail; case' hos => (simp only [List.map_cons, List.map_nil, List.getElem?_toArray, List.getElem?_cons_succ, List.getElem?_cons_zero]; repeat' (first | exact ms_nil | apply ms_cons))))
      have hs := hs.cutRow (n - 1) c (by omega) (by omega) (Nat.le_refl _)
      rw [splice_take _ _ _ (by simp only [List.length_append, List.length_take, List.length_drop, hl]; omega), List.take_append_of_le_length (by simp only [List.length_append, List.length_take, List.length_drop, hl]; omega), List.take_of_length_le (by simp only [List.length_append, List.length_take, List.length_drop, hl]; omega)] at hs
      refine J_leave Tryz.func154 rfl (.tmp rfl .nil) ⟨rfl, St.turned (M := []) hs⟩
    · repeat' (first
        | ((apply al_none (t := 13); refine JL_pure (v := .slice (some ⟨b, o + k * 2, none⟩) 1 (n - k)) (by apply as_slice; exact OpR_slice (kl := .i64) (kh := .i64) (km := .i64) (a' := some ⟨b, o + k * 2, none⟩) (l := (k : Nat)) (h := (k : Int) + 1) (m := (n : Nat)) rfl (.inr ⟨_, rfl, rfl⟩) (.inr ⟨_, rfl, rfl⟩) (.inr ⟨_, rfl, rfl⟩) (by omega) (by omega) (by omega) (by omega) (by rw [if_neg (by omega)]; simp [add_eq]) (by rw [show ((k : Int) + 1 - (k : Int)).toNat = 1 by omega, show ((n : Int) - (k : Int)).toNat = n - k by omega]; exact is_rfl)) rfl rfl ?_))
        | ((apply al_none (t := 26); have hs := hs.cutRow k c (by omega) (by omega) (Nat.le_refl _); refine JL_o (by apply as_b_append; exact OpR_appendR (n := k) (m := n - (k + 1)) (news := X.drop ((k + 1) * 2)) hs rfl rfl ⟨by rw [List.length_drop]; omega, (fun _ => by omega), (fun u hu => h1 u (List.mem_of_mem_drop hu)), (fun b o hb j u hj => by rw [List.getElem?_drop, List.getElem?_eq_none (by omega)] at hj; cases hj)⟩ (fun h => absurd h (by omega)) (by omega)) rfl rfl ?_; rintro _ _ ⟨rfl, hs, hF⟩))
        | ((apply al_none (t := 31); rw [hm] at hs ⊢; obtain ⟨ys, hyl, hs⟩ := hs.growRow n (by omega) (by omega); refine JL_pure (v := .slice (some ⟨b, o + (n - 1) * 2, none⟩) 1 (c - (n - 1))) (by apply as_slice; exact OpR_slice (kl := .i64) (kh := .i64) (km := .i64) (a' := some ⟨b, o + (n - 1) * 2, none⟩) (l := (n - 1 : Nat)) (h := (n : Nat)) (m := (c : Nat)) rfl (.inr ⟨_, rfl, rfl⟩) (.inr ⟨_, rfl, rfl⟩) (.inl ⟨rfl, rfl⟩) (by omega) (by omega) (by omega) (by omega) (by rw [if_neg (by omega)]; simp [add_eq]) (by rw [show ((n : Int) - ((n - 1 : Nat) : Int)).toNat = 1 by omega, show ((c : Int) - ((n - 1 : Nat) : Int)).toNat = c - (n - 1) by omega]; exact is_rfl)) rfl rfl ?_))
        | ((apply al_unit; refine JL_u (by apply as_b_clear; exact OpR_clear (a := some ⟨b, o, none⟩) (off := n - 1) (n := n) (c := c) (sz := 2) hs rfl rfl (by decide) (fun _ => by simp [add_eq]) (by omega)) rfl ?_; rintro _ _ ⟨rfl, ⟨zs, hzl, hs⟩, hF⟩))
        | (apply JL_nil)
        | ((first | (apply JL_pure) | (apply JX_f; exact rfl; intro W X hs)); (first
      | (apply as_slice; first | exact OpR_sliceHi (q := k) rfl rfl (by omega) (by omega) is_rfl | exact OpR_sliceLo (q := k + 1) rfl rfl (by omega) (by omega) (by omega) (by omega) is_rfl)
      | (apply as_move; exact OpR_move rfl is_rfl)
      | (apply as_assign; exact OpR_assign rfl is_rfl)
      | (apply as_binOp; exact OpR_ibin rfl rfl rfl is_rfl)
      | (apply as_b_len; exact OpR_len rfl is_rfl)); first | (exact rfl; exact rfl) | exact rfl)
        | (apply J_seq)
        | (apply J_region)
        | (apply J_skip)
        | (apply aj_cond; refine J_dec_f rfl ob ?_)
        | (apply aj_draw; (refine J_drawX (id := 5) [0, 0, 3, 0, 0, 24, 63, 127] [(0, 0), (1, 0), (2, 0), (3, 0), (4, 0), (5, 0)] [6, 7] hs mixed (by kernel_rfl) (by kernel_rfl) (by kernel_rfl) (by kernel_rfl) (by kernel_rfl) ?_))
        | (refine JX_done (fun W hs => ?_))
        | (apply JD_tail; case' hos => (simp only [List.map_cons, List.map_nil, List.getElem?_toArray, List.getElem?_cons_succ, List.getElem?_cons_zero]; repeat' (first | exact ms_nil | apply ms_cons))))
      have hs := hs.cutRow (n - 1) c (by omega) (by omega) (Nat.le_refl _)
      rw [splice_take _ _ _ (by simp only [List.length_append, List.length_take, List.length_drop, hl]; omega), List.take_append_of_le_length (by simp only [List.length_append, List.length_take, List.length_drop, hl]; omega), List.take_of_length_le (by simp only [List.length_append, List.length_take, List.length_drop, hl]; omega)] at hs
      refine J_leave Tryz.func154 rfl (.tmp rfl .nil) ⟨rfl, St.turned (M := []) hs⟩
  · have hcn : c = n := by omega
    have hkn : k + 1 = n := by omega
    subst hcn
    repeat' (first
      | ((apply al_none (t := 13); refine JL_pure (v := .slice (some ⟨b, o + k * 2, none⟩) 1 (c - k)) (by apply as_slice; exact OpR_slice (kl := .i64) (kh := .i64) (km := .i64) (a' := some ⟨b, o + k * 2, none⟩) (l := (k : Nat)) (h := (k : Int) + 1) (m := (c : Nat)) rfl (.inr ⟨_, rfl, rfl⟩) (.inr ⟨_, rfl, rfl⟩) (.inr ⟨_, rfl, rfl⟩) (by omega) (by omega) (by omega) (by omega) (by rw [if_neg (by omega)]; simp [add_eq]) (by rw [show ((k : Int) + 1 - (k : Int)).toNat = 1 by omega, show ((c : Int) - (k : Int)).toNat = c - k by omega]; exact is_rfl)) rfl rfl ?_))
      | ((apply al_none (t := 26); have hs := hs.cutRow k c (by omega) (by omega) (Nat.le_refl _); refine JL_o (by apply as_b_append; exact OpR_appendR (n := k) (m := c - (k + 1)) (news := X.drop ((k + 1) * 2)) hs rfl rfl ⟨by rw [List.length_drop]; omega, (fun _ => by omega), (fun u hu => h1 u (List.mem_of_mem_drop hu)), (fun b o hb j u hj => by rw [List.getElem?_drop, List.getElem?_eq_none (by omega)] at hj; cases hj)⟩ (fun h => absurd h (by omega)) (by omega)) rfl rfl ?_; rintro _ _ ⟨rfl, hs, hF⟩))
      | ((apply al_none (t := 31); rw [hm] at hs ⊢; obtain ⟨ys, hyl, hs⟩ := hs.growRow c (by omega) (by omega); refine JL_pure (v := .slice (some ⟨b, o + (c - 1) * 2, none⟩) 1 1) (by apply as_slice; exact OpR_slice (kl := .i64) (kh := .i64) (km := .i64) (a' := some ⟨b, o + (c - 1) * 2, none⟩) (l := (c - 1 : Nat)) (h := (c : Nat)) (m := (c : Nat)) rfl (.inr ⟨_, rfl, rfl⟩) (.inr ⟨_, rfl, rfl⟩) (.inl ⟨rfl, rfl⟩) (by omega) (by omega) (by omega) (by omega) (by rw [if_neg (by omega)]; simp [add_eq]) (by rw [show ((c : Int) - ((c - 1 : Nat) : Int)).toNat = 1 by omega]; exact is_rfl)) rfl rfl ?_))
      | ((apply al_unit; refine JL_u (by apply as_b_clear; exact OpR_clear (a := some ⟨b, o, none⟩) (off := c - 1) (n := c) (c := c) (sz := 2) hs rfl rfl (by decide) (fun _ => by simp [add_eq]) (by omega)) rfl ?_; rintro _ _ ⟨rfl, ⟨zs, hzl, hs⟩, hF⟩))
      | (apply JL_nil)
      | ((first | (apply JL_pure) | (apply JX_f; exact rfl; intro W X hs)); (first
      | (apply as_slice; first | exact OpR_sliceHi (q := k) rfl rfl (by omega) (by omega) is_rfl | exact OpR_slice (kl := .i64) (kh := .i64) (km := .i64) (l := (k + 1 : Nat)) (m := c) (h := (c : Nat)) rfl (.inr ⟨_, rfl, by rfl⟩) (.inl ⟨rfl, rfl, rfl⟩) (.inl ⟨rfl, rfl⟩) (by omega) (by omega) (by omega) (by omega) rfl (by rw [show ((c : Int) - ((k + 1 : Nat) : Int)).toNat = c - (k + 1) by omega]; exact is_rfl))
      | (apply as_move; exact OpR_move rfl is_rfl)
      | (apply as_assign; exact OpR_assign rfl is_rfl)
      | (apply as_binOp; exact OpR_ibin rfl rfl rfl is_rfl)
      | (apply as_b_len; exact OpR_len rfl is_rfl)); first | (exact rfl; exact rfl) | exact rfl)
      | (apply J_seq)
      | (apply J_region)
      | (apply J_skip)
      | (apply aj_cond; refine J_dec_f rfl ob ?_)
      | (apply aj_draw; (refine J_drawX (id := 5) [0, 0, 3, 0, 0, 24, 63, 127] [(0, 0), (1, 0), (2, 0), (3, 0), (4, 0), (5, 0)] [6, 7] hs mixed (by kernel_rfl) (by kernel_rfl) (by kernel_rfl) (by kernel_rfl) (by kernel_rfl) ?_))
      | (refine JX_done (fun W hs => ?_))
      | (apply JD_tail; case' hos => (simp only [List.map_cons, List.map_nil, List.getElem?_toArray, List.getElem?_cons_succ, List.getElem?_cons_zero]; repeat' (first | exact ms_nil | apply ms_cons))))
    have hs := hs.cutRow (c - 1) c (by omega) (by omega) (Nat.le_refl _)
    rw [splice_take _ _ _ (by simp only [List.length_append, List.length_take, List.length_drop, hl]; omega), List.take_append_of_le_length (by simp only [List.length_append, List.length_take, List.length_drop, hl]; omega), List.take_of_length_le (by simp only [List.length_append, List.length_take, List.length_drop, hl]; omega)] at hs
    refine J_leave Tryz.func154 rfl (.tmp rfl .nil) ⟨rfl, St.turned (M := []) hs⟩
theorem idxFH_r (w : World) (a : Option Addr) (n c : Nat) (xs : List HH) (h : Sl dHeld All w a n c xs) (hn : n ≤ 4000000) (g : FuncId) (cap : Array Value) (eg : Enters Tryz.prog g) (pr : HH → Bool) (hcall : ∀ W, (∀ k, k < w.heap.size → W.heap[k]? = w.heap[k]?) → ∀ x ∈ xs, Ret Tryz.prog g (#[.agg (cH x).toArray] ++ cap) W (fun v w' => v = .bool (pr x) ∧ Ext W w')) :
    Ret Tryz.prog 158 #[.slice a n c, .func (.func g) #[] cap] w fun v w' => ((v = .int .i64 (-1) ∧ xs.filter (fun x => !pr x) = xs) ∨ ∃ (k : Nat) (x : HH), v = .int .i64 (k : Nat) ∧ xs[k]? = some x ∧ pr x = true ∧ (xs.take k).filter (fun x => !pr x) = xs.take k) ∧ Ext w w' := by
  refine Ret_of (l := [_, _]) Tryz.func158 rfl Tryz.ntmps158 (by simp) ?_
  have hs := St.init w
  have hl := h.len
  repeat' (first
    | (apply JL_nil)
    | ((apply JL_pure); (first
      | (apply as_move; exact OpR_move rfl is_rfl)
      | (apply as_assign; exact OpR_assign rfl is_rfl)
      | (apply as_b_len; exact OpR_len rfl is_rfl)); first | (exact rfl; exact rfl) | exact rfl)
    | (apply J_seq)
    | (apply J_region)
    | (apply J_block))
  refine J_loopK (α := Nat) [(0, _), (1, _), (7, _)] (fun k => [(8, .int .i64 k)]) (fun k w' => St w NoF w' [] ∧ k ≤ n ∧ (xs.take k).filter (fun x => !pr x) = xs.take k) (fun k => n - k) 0 ⟨hs, by omega, rfl⟩ (by repeat' (first | exact trivial | exact rfl | apply And.intro)) ?_
  rintro k w' ⟨hs1, hk, hf⟩ ih
  have hs : St w NoF w' [] := hs1
  by_cases hlt : k < n
  · obtain ⟨p1, o1, rfl⟩ := h.sl.addr (by omega)
    have hx : xs[k]? = some (xs[k]'(by omega)) := List.getElem?_eq_getElem (by omega)
    obtain ⟨x, hxd⟩ : ∃ x, x = xs[k]'(by omega) := ⟨_, rfl⟩
    rw [← hxd] at hx
    have hks := keep_succ pr hx
    obtain ⟨pb, hpb⟩ : ∃ pb, pb = pr x := ⟨_, rfl⟩
    cases pb with
    | false =>
      rw [← hpb, if_neg (by decide), hf] at hks
      repeat' (first
        | ((apply al_none (t := 16); refine JL_o (OpR_callV rfl rfl (Ret.value (cap := cap) eg (hcall _ (fun k hk => hs.frm.old k hk id) x (List.mem_of_getElem? hx)))) rfl rfl ?_; rintro _ _ ⟨rfl, hE⟩; have hs := hs.ext hE; rw [← hpb]))
        | (apply JL_nil)
        | ((apply JL_pure); (first
      | (apply as_load; exact OpR_load_el (h.st hs) hx rfl rfl is_rfl)
      | (apply as_move; exact OpR_move rfl is_rfl)
      | (apply as_assign; exact OpR_assign rfl is_rfl)
      | (apply as_add; exact OpR_addn rfl rfl (by omega) (by first | (simp only [Int.reduceAdd]; exact rfl) | exact rfl) is_rfl)
      | (apply as_binOp; exact OpR_ibin rfl rfl rfl is_rfl)
      | (apply as_indexAddr; exact OpR_indexAddr rfl rfl (by omega) (by omega) is_rfl)); first | (exact rfl; exact rfl) | exact rfl)
        | (apply J_seq)
        | (apply J_region)
        | (apply J_block)
        | (apply J_inBlock)
        | (apply J_skip)
        | (apply aj_cond; first | refine J_dec_t rfl ob ?_ | refine J_cond_f rfl gb ?_))
      refine ih (k + 1) _ _ ⟨hs, by omega, by rw [hks, List.take_add_one, hx]; rfl⟩ (by omega) (by repeat' (first | exact trivial | exact rfl | apply And.intro))
    | true =>
      repeat' (first
        | ((apply al_none (t := 16); refine JL_o (OpR_callV rfl rfl (Ret.value (cap := cap) eg (hcall _ (fun k hk => hs.frm.old k hk id) x (List.mem_of_getElem? hx)))) rfl rfl ?_; rintro _ _ ⟨rfl, hE⟩; have hs := hs.ext hE; rw [← hpb]))
        | (apply JL_nil)
        | ((apply JL_pure); (first
      | (apply as_load; exact OpR_load_el (h.st hs) hx rfl rfl is_rfl)
      | (apply as_move; exact OpR_move rfl is_rfl)
      | (apply as_assign; exact OpR_assign rfl is_rfl)
      | (apply as_binOp; exact OpR_ibin rfl rfl rfl is_rfl)
      | (apply as_indexAddr; exact OpR_indexAddr rfl rfl (by omega) (by omega) is_rfl)); first | (exact rfl; exact rfl) | exact rfl)
        | (apply J_seq)
        | (apply J_region)
        | (apply J_block)
        | (apply J_skip)
        | (apply aj_cond; first | refine J_dec_t rfl ob ?_ | refine J_cond_t rfl gb ?_))
      refine J_leave Tryz.func158 rfl (.tmp rfl .nil) ⟨.inr ⟨k, x, rfl, hx, hpb.symm, hf⟩, hs.frm.ext⟩
  · have e : xs.take k = xs := List.take_of_length_le (by omega)
    rw [e] at hf
    repeat' (first
      | (apply JL_nil)
      | ((apply JL_pure); (first
      | (apply as_assign; exact OpR_assign rfl is_rfl)
      | (apply as_binOp; exact OpR_ibin rfl rfl rfl is_rfl)); first | (exact rfl; exact rfl) | exact rfl)
      | (apply J_seq)
      | (apply J_region)
      | (apply aj_exit; refine J_exit rfl ?_)
      | (apply aj_cond; refine J_dec_f rfl ob ?_))
    refine J_leave Tryz.func158 rfl (.tmp rfl .nil) ⟨.inl ⟨rfl, hf⟩, hs.frm.ext⟩
theorem delFH_r (w : World) (a : Option Addr) (n c : Nat) (xs : List HH) (hh : Held w [Row a n c 31 2 (encL cH xs)]) (hok : ∀ x ∈ xs, okH x) (hn : n ≤ 4000000) (g : FuncId) (cap : Array Value) (eg : Enters Tryz.prog g) (pr : HH → Bool) (hcall : ∀ W, (∀ k, k < w.heap.size → ¬ afoot a k → W.heap[k]? = w.heap[k]?) → ∀ x ∈ xs, Ret Tryz.prog g (#[.agg (cH x).toArray] ++ cap) W (fun v w' => v = .bool (pr x) ∧ Ext W w')) :
    Ret Tryz.prog 80 #[.slice a n c, .func (.func g) #[] cap] w fun v w' => v = .slice a (xs.filter (fun x => !pr x)).length c ∧ Turn w [Row a n c 31 2 (encL cH xs)] w' [Row a (xs.filter (fun x => !pr x)).length c 31 2 (encL cH (xs.filter (fun x => !pr x)))] := by
  refine Ret_of (l := [_, _]) Tryz.func80 rfl Tryz.ntmps80 (by simp) ?_
  have hs := hh.st
  have hrow := hs.row a n c
  have hlE := hrow.len
  have hlen : xs.length = n := by
    have := encL_len (d := dHeld) xs
    rw [hlE] at this
    exact (Nat.eq_of_mul_eq_mul_right (by decide) this).symm
  have hsl : Sl dHeld All w a n c xs := (RowV.slF (d := dHeld) hrow (by decide) hok).weak (fun _ _ => trivial)
  have hcap := hrow.2.1
  repeat' (first
    | ((apply al_none (t := 10); refine JL_o (OpR_callF en158 rfl (idxFH_r _ a n c xs hsl hn g cap eg pr (fun W hW x hx => hcall W (fun k hk _ => hW k hk) x hx))) rfl rfl ?_; rintro _ _ ⟨⟨rfl, hf⟩ | ⟨k, r, rfl, hx, hr, hf⟩, hE⟩ <;> have hs := hs.ext hE <;> (try (have hkn : k < n := by rw [← hlen]; exact (List.getElem?_eq_some_iff.1 hx).1))))
    | (apply JL_nil)
    | ((apply JL_pure); (first
      | (apply as_move; exact OpR_move rfl is_rfl)
      | (apply as_assign; exact OpR_assign rfl is_rfl)
      | (apply as_add; exact OpR_addn rfl rfl (by omega) (by first | (simp only [Int.reduceAdd]; exact rfl) | exact rfl) is_rfl)
      | (apply as_binOp; exact OpR_ibin rfl rfl rfl is_rfl)); first | (exact rfl; exact rfl) | exact rfl)
    | (apply J_seq)
    | (apply J_region)
    | (apply J_block)
    | (apply J_skip)
    | (apply aj_cond; first | refine J_dec_t rfl ob ?_ | refine J_dec_f rfl ob ?_))
  · rw [hf, hlen]
    refine J_leave Tryz.func80 rfl (.tmp rfl .nil) ⟨rfl, St.turned (M := []) hs⟩
  have hf1 : (xs.take (k + 1)).filter (fun x => !pr x) = xs.take k := by rw [keep_succ pr hx, hr, if_pos rfl, hf, List.append_nil]
  have hs0 : St w (Star [Row a n c 31 2 (encL cH xs)]).foot _ [Row a n c 31 2 (encL cH xs)] := hs
  refine J_loopK (α := Nat × Nat × List HH) [(0, _), (1, _)] (fun g => [(5, .int .i64 g.1), (6, .int .i64 g.2.1)]) (fun g w' => St w (Star [Row a n c 31 2 (encL cH xs)]).foot w' [Row a n c 31 2 (encL cH g.2.2)] ∧ (g.1 < g.2.1 ∧ g.2.1 ≤ n) ∧ g.2.2.length = n ∧ g.2.2.take g.1 = (xs.take g.2.1).filter (fun x => !pr x) ∧ g.2.2.drop g.2.1 = xs.drop g.2.1) (fun g => n - g.2.1) (k, k + 1, xs) ⟨hs0, ⟨by dsimp only; omega, by dsimp only; omega⟩, hlen, hf1.symm, rfl⟩ (by repeat' (first | exact trivial | exact rfl | apply And.intro)) ?_
  rintro ⟨i, j, cur⟩ w2 ⟨hs1, ⟨hij, hj⟩, hcl, ht, hd⟩ ih
  dsimp only at hs1 hij hj hcl ht hd ih ⊢
  obtain ⟨b, o, rfl⟩ := (hs1.row a n c).some (by omega)
  have hs : St w (Star [Row (some ⟨b, o, none⟩) n c 31 2 (encL cH xs)]).foot w2 [Row (some ⟨b, o, none⟩) n c 31 2 (encL cH cur)] := hs1
  by_cases hlt : j < n
  · have hx2 : xs[j]? = some (xs[j]'(by omega)) := List.getElem?_eq_getElem (by omega)
    obtain ⟨r2, hrd⟩ : ∃ r, r = xs[j]'(by omega) := ⟨_, rfl⟩
    rw [← hrd] at hx2
    have hc2 : cur[j]? = some r2 := by
      have : (cur.drop j)[0]? = (xs.drop j)[0]? := by rw [hd]
      rw [List.getElem?_drop, List.getElem?_drop, Nat.add_zero] at this
      rw [this]; exact hx2
    have hld : ∀ (q : Nat) (u : Value), (cH r2)[q]? = some u → (encL cH cur)[j * 2 + q]? = some u := fun q u hq => by
      have hq3 : q < 2 := (List.getElem?_eq_some_iff.1 hq).1
      rw [show (encL cH cur)[j * 2 + q]? = (cH r2)[q]? from encL_get (d := dHeld) cur j q r2 hc2 hq3]; exact hq
    have hdj : cur.drop (j + 1) = xs.drop (j + 1) := by
      have : (cur.drop j).drop 1 = (xs.drop j).drop 1 := by rw [hd]
      rwa [List.drop_drop, List.drop_drop] at this
    have hft := keep_succ pr hx2
    obtain ⟨pb, hpb⟩ : ∃ pb, pb = pr r2 := ⟨_, rfl⟩
    cases pb with
    | false =>
      rw [← hpb, if_neg (by decide), ← ht] at hft
      have hset : encL cH (cur.set i r2) = splice (encL cH cur) (i * 2) (cH r2) := encL_set (d := dHeld) cur i r2 (by omega)
      repeat' (first
        | ((apply al_none (t := 28); refine JL_o (OpR_callV rfl rfl (Ret.value (cap := cap) eg (hcall _ (fun k hk hf => hs.frm.old k hk (fun h => hf (star_row h))) r2 (List.mem_of_getElem? hx2)))) rfl rfl ?_; rintro _ _ ⟨rfl, hE⟩; have hs := hs.ext hE; rw [← hpb]))
        | ((apply al_unit; refine JL_u (by apply as_store; exact OpR_storeN (b := b) (o := o) (off := i * 2) (n := n) (c := c) (vs := cH r2) hs rfl rfl rfl rfl (fun u hu => by simp only [List.mem_cons, List.not_mem_nil, or_false] at hu; rcases hu with rfl | rfl <;> rfl) (by show i * 2 + 2 ≤ n * 2; omega)) rfl ?_; rintro _ _ ⟨hs, hF⟩; rw [← hset] at hs))
        | (apply JL_nil)
        | ((apply JL_pure); (first
      | (apply as_load; first | exact OpR_loadN (off := j * 2) (n := n) (c := c) hs rfl rfl hld is_rfl | exact OpR_load_agg' hs rfl is_rfl)
      | (apply as_move; exact OpR_move rfl is_rfl)
      | (apply as_assign; exact OpR_assign rfl is_rfl)
      | (apply as_add; exact OpR_addn rfl rfl (by omega) (by first | (simp only [Int.reduceAdd]; exact rfl) | exact rfl) is_rfl)
      | (apply as_binOp; exact OpR_ibin rfl rfl rfl is_rfl)
      | (apply as_unOp; exact OpR_not rfl is_rfl)
      | (apply as_b_len; exact OpR_len rfl is_rfl)
      | (apply as_indexAddr; exact OpR_indexAddr rfl rfl (by omega) (by omega) is_rfl)); first | (exact rfl; exact rfl) | exact rfl)
        | (apply J_seq)
        | (apply J_region)
        | (apply J_block)
        | (apply J_inBlock)
        | (apply J_skip)
        | (apply al_none (t := 7); refine JL_o (by apply as_alloc; exact OpR_alloc' hs) rfl rfl ?_; rintro _ _ ⟨b7, rfl, hb7, hs, hE⟩)
        | (apply al_unit; refine JL_u (by apply as_store; exact OpR_store' hs rfl rfl rfl) rfl ?_; rintro _ _ ⟨hs, hF⟩)
        | (apply aj_cond; first | refine J_dec_t rfl ob ?_ | refine J_cond_t rfl gb ?_))
      refine ih (i + 1, j + 1, cur.set i r2) _ _ ⟨hs.sel [1] (by decide), ⟨by dsimp only; omega, by dsimp only; omega⟩, by dsimp only; rw [List.length_set]; exact hcl, ?_, ?_⟩ (by dsimp only; omega) (by repeat' (first | exact trivial | exact rfl | apply And.intro))
      · dsimp only
        rw [hft, List.take_add_one, List.getElem?_set_self (by omega), List.take_set_of_le (Nat.le_refl _)]; rfl
      · dsimp only
        rw [List.drop_set_of_lt (by omega)]; exact hdj
    | true =>
      rw [← hpb, if_pos rfl, ← ht, List.append_nil] at hft
      repeat' (first
        | ((apply al_none (t := 28); refine JL_o (OpR_callV rfl rfl (Ret.value (cap := cap) eg (hcall _ (fun k hk hf => hs.frm.old k hk (fun h => hf (star_row h))) r2 (List.mem_of_getElem? hx2)))) rfl rfl ?_; rintro _ _ ⟨rfl, hE⟩; have hs := hs.ext hE; rw [← hpb]))
        | (apply JL_nil)
        | ((apply JL_pure); (first
      | (apply as_load; first | exact OpR_loadN (off := j * 2) (n := n) (c := c) hs rfl rfl hld is_rfl | exact OpR_load_agg' hs rfl is_rfl)
      | (apply as_move; exact OpR_move rfl is_rfl)
      | (apply as_assign; exact OpR_assign rfl is_rfl)
      | (apply as_add; exact OpR_addn rfl rfl (by omega) (by first | (simp only [Int.reduceAdd]; exact rfl) | exact rfl) is_rfl)
      | (apply as_binOp; exact OpR_ibin rfl rfl rfl is_rfl)
      | (apply as_unOp; exact OpR_not rfl is_rfl)
      | (apply as_b_len; exact OpR_len rfl is_rfl)
      | (apply as_indexAddr; exact OpR_indexAddr rfl rfl (by omega) (by omega) is_rfl)); first | (exact rfl; exact rfl) | exact rfl)
        | (apply J_seq)
        | (apply J_region)
        | (apply J_block)
        | (apply J_inBlock)
        | (apply J_skip)
        | (apply al_none (t := 7); refine JL_o (by apply as_alloc; exact OpR_alloc' hs) rfl rfl ?_; rintro _ _ ⟨b7, rfl, hb7, hs, hE⟩)
        | (apply al_unit; refine JL_u (by apply as_store; exact OpR_store' hs rfl rfl rfl) rfl ?_; rintro _ _ ⟨hs, hF⟩)
        | (apply aj_cond; first | refine J_dec_t rfl ob ?_ | refine J_cond_f rfl gb ?_))
      refine ih (i, j + 1, cur) _ _ ⟨hs.sel [1] (by decide), ⟨by dsimp only; omega, by dsimp only; omega⟩, hcl, hft.symm, hdj⟩ (by dsimp only; omega) (by repeat' (first | exact trivial | exact rfl | apply And.intro))
  · have hjn : j = n := by omega
    subst hjn
    have htk : xs.take j = xs := List.take_of_length_le (by omega)
    rw [htk] at ht
    have hfl : (xs.filter (fun x => !pr x)).length = i := by rw [← ht, List.length_take]; omega
    have hcell : ∀ zs, (splice (encL cH cur) (i * 2) zs).take (i * 2) = encL cH (xs.filter (fun x => !pr x)) := fun zs => by
      have := encL_len (d := dHeld) cur
      rw [splice_take _ _ _ (by rw [this]; show i * 2 ≤ cur.length * 2; omega), ← ht]; exact (encL_take (d := dHeld) cur i).symm
    rw [hfl]
    repeat' (first
      | ((apply al_none (t := 38); refine JL_pure (v := .slice (some ⟨b, o + i * 2, none⟩) (j - i) (c - i)) (by apply as_slice; exact OpR_sliceLo (q := i) rfl rfl rfl (by omega) (by omega) (by omega) is_rfl) rfl rfl ?_))
      | ((apply al_unit; refine JL_u (by apply as_b_clear; exact OpR_clear (a := some ⟨b, o, none⟩) (off := i) (n := j) (c := c) (sz := 2) hs rfl rfl (by decide) (fun _ => by simp [add_eq]) (by omega)) rfl ?_; rintro _ _ ⟨rfl, ⟨zs, hzl, hs⟩, hF⟩))
      | (apply JL_nil)
      | ((apply JL_pure); (first
      | (apply as_slice; exact OpR_sliceHi (q := i) rfl rfl rfl (by omega) is_rfl)
      | (apply as_move; exact OpR_move rfl is_rfl)
      | (apply as_assign; exact OpR_assign rfl is_rfl)
      | (apply as_binOp; exact OpR_ibin rfl rfl rfl is_rfl)
      | (apply as_b_len; exact OpR_len rfl is_rfl)); first | (exact rfl; exact rfl) | exact rfl)
      | (apply J_seq)
      | (apply J_region)
      | (apply aj_exit; refine J_exit rfl ?_)
      | (apply aj_cond; refine J_dec_f rfl ob ?_))
    have hs := hs.cutRow i c (by omega) (by omega) (Nat.le_refl _)
    rw [hcell] at hs
    refine J_leave Tryz.func80 rfl (.tmp rfl .nil) ⟨rfl, St.turned (M := []) hs⟩
theorem idxFId_r (w : World) (a : Option Addr) (n c : Nat) (xs : List Int) (h : Sl dId All w a n c xs) (hn : n ≤ 4000000) (g : FuncId) (cap : Array Value) (eg : Enters Tryz.prog g) (pr : Int → Bool) (hcall : ∀ W, (∀ k, k < w.heap.size → W.heap[k]? = w.heap[k]?) → ∀ x ∈ xs, Ret Tryz.prog g (#[.int .u64 x] ++ cap) W (fun v w' => v = .bool (pr x) ∧ Ext W w')) :
    Ret Tryz.prog 216 #[.slice a n c, .func (.func g) #[] cap] w fun v w' => ((v = .int .i64 (-1) ∧ xs.filter (fun x => !pr x) = xs) ∨ ∃ (k : Nat) (x : Int), v = .int .i64 (k : Nat) ∧ xs[k]? = some x ∧ pr x = true ∧ (xs.take k).filter (fun x => !pr x) = xs.take k) ∧ Ext w w' := by
  refine Ret_of (l := [_, _]) Tryz.func216 rfl Tryz.ntmps216 (by simp) ?_
  have hs := St.init w
  have hl := h.len
  repeat' (first
    | (apply JL_nil)
    | ((apply JL_pure); (first
      | (apply as_move; exact OpR_move rfl is_rfl)
      | (apply as_assign; exact OpR_assign rfl is_rfl)
      | (apply as_b_len; exact OpR_len rfl is_rfl)); first | (exact rfl; exact rfl) | exact rfl)
    | (apply J_seq)
    | (apply J_region)
    | (apply J_block))
  refine J_loopK (α := Nat) [(0, _), (1, _), (7, _)] (fun k => [(8, .int .i64 k)]) (fun k w' => St w NoF w' [] ∧ k ≤ n ∧ (xs.take k).filter (fun x => !pr x) = xs.take k) (fun k => n - k) 0 ⟨hs, by omega, rfl⟩ (by repeat' (first | exact trivial | exact rfl | apply And.intro)) ?_
  rintro k w' ⟨hs1, hk, hf⟩ ih
  have hs : St w NoF w' [] := hs1
  by_cases hlt : k < n
  · obtain ⟨p1, o1, rfl⟩ := h.sl.addr (by omega)
    have hx : xs[k]? = some (xs[k]'(by omega)) := List.getElem?_eq_getElem (by omega)
    obtain ⟨x, hxd⟩ : ∃ x, x = xs[k]'(by omega) := ⟨_, rfl⟩
    rw [← hxd] at hx
    have hks := keep_succ pr hx
    obtain ⟨pb, hpb⟩ : ∃ pb, pb = pr x := ⟨_, rfl⟩
    cases pb with
    | false =>
      rw [← hpb, if_neg (by decide), hf] at hks
      repeat' (first
        | ((apply al_none (t := 16); refine JL_o (OpR_callV rfl rfl (Ret.value (cap := cap) eg (hcall _ (fun k hk => hs.frm.old k hk id) x (List.mem_of_getElem? hx)))) rfl rfl ?_; rintro _ _ ⟨rfl, hE⟩; have hs := hs.ext hE; rw [← hpb]))
        | (apply JL_nil)
        | ((apply JL_pure); (first
      | (apply as_load; exact OpR_load_el1 (j := 0) (h.st hs) hx rfl rfl rfl is_rfl)
      | (apply as_move; exact OpR_move rfl is_rfl)
      | (apply as_assign; exact OpR_assign rfl is_rfl)
      | (apply as_add; exact OpR_addn rfl rfl (by omega) (by first | (simp only [Int.reduceAdd]; exact rfl) | exact rfl) is_rfl)
      | (apply as_binOp; exact OpR_ibin rfl rfl rfl is_rfl)
      | (apply as_indexAddr; exact OpR_indexAddr rfl rfl (by omega) (by omega) is_rfl)); first | (exact rfl; exact rfl) | exact rfl)
        | (apply J_seq)
        | (apply J_region)
        | (apply J_block)
        | (apply J_inBlock)
        | (apply J_skip)
        | (apply aj_cond; first | refine J_dec_t rfl ob ?_ | refine J_cond_f rfl gb ?_))
      refine ih (k + 1) _ _ ⟨hs, by omega, by rw [hks, List.take_add_one, hx]; rfl⟩ (by omega) (by repeat' (first | exact trivial | exact rfl | apply And.intro))
    | true =>
      repeat' (first
        | ((apply al_none (t := 16); refine JL_o (OpR_callV rfl rfl (Ret.value (cap := cap) eg (hcall _ (fun k hk => hs.frm.old k hk id) x (List.mem_of_getElem? hx)))) rfl rfl ?_; rintro _ _ ⟨rfl, hE⟩; have hs := hs.ext hE; rw [← hpb]))
        | (apply JL_nil)
        | ((apply JL_pure); (first
      | (apply as_load; exact OpR_load_el1 (j := 0) (h.st hs) hx rfl rfl rfl is_rfl)
      | (apply as_move; exact OpR_move rfl is_rfl)
      | (apply as_assign; exact OpR_assign rfl is_rfl)
      | (apply as_binOp; exact OpR_ibin rfl rfl rfl is_rfl)
      | (apply as_indexAddr; exact OpR_indexAddr rfl rfl (by omega) (by omega) is_rfl)); first | (exact rfl; exact rfl) | exact rfl)
        | (apply J_seq)
        | (apply J_region)
        | (apply J_block)
        | (apply J_skip)
        | (apply aj_cond; first | refine J_dec_t rfl ob ?_ | refine J_cond_t rfl gb ?_))
      refine J_leave Tryz.func216 rfl (.tmp rfl .nil) ⟨.inr ⟨k, x, rfl, hx, hpb.symm, hf⟩, hs.frm.ext⟩
  · have e : xs.take k = xs := List.take_of_length_le (by omega)
    rw [e] at hf
    repeat' (first
      | (apply JL_nil)
      | ((apply JL_pure); (first
      | (apply as_assign; exact OpR_assign rfl is_rfl)
      | (apply as_binOp; exact OpR_ibin rfl rfl rfl is_rfl)); first | (exact rfl; exact rfl) | exact rfl)
      | (apply J_seq)
      | (apply J_region)
      | (apply aj_exit; refine J_exit rfl ?_)
      | (apply aj_cond; refine J_dec_f rfl ob ?_))
    refine J_leave Tryz.func216 rfl (.tmp rfl .nil) ⟨.inl ⟨rfl, hf⟩, hs.frm.ext⟩
theorem delFId_r (w : World) (a : Option Addr) (n c : Nat) (xs : List Int) (hh : Held w [Row a n c 29 1 (encL cId xs)]) (hok : ∀ x ∈ xs, okId x) (hn : n ≤ 4000000) (g : FuncId) (cap : Array Value) (eg : Enters Tryz.prog g) (pr : Int → Bool) (hcall : ∀ W, (∀ k, k < w.heap.size → ¬ afoot a k → W.heap[k]? = w.heap[k]?) → ∀ x ∈ xs, Ret Tryz.prog g (#[.int .u64 x] ++ cap) W (fun v w' => v = .bool (pr x) ∧ Ext W w')) :
    Ret Tryz.prog 162 #[.slice a n c, .func (.func g) #[] cap] w fun v w' => v = .slice a (xs.filter (fun x => !pr x)).length c ∧ Turn w [Row a n c 29 1 (encL cId xs)] w' [Row a (xs.filter (fun x => !pr x)).length c 29 1 (encL cId (xs.filter (fun x => !pr x)))] := by
  refine Ret_of (l := [_, _]) Tryz.func162 rfl Tryz.ntmps162 (by simp) ?_
  have hs := hh.st
  have hrow := hs.row a n c
  have hlE := hrow.len
  have hlen : xs.length = n := by
    have := encL_len (d := dId) xs
    rw [hlE] at this
    exact (Nat.eq_of_mul_eq_mul_right (by decide) this).symm
  have hsl : Sl dId All w a n c xs := (RowV.slF (d := dId) hrow (by decide) hok).weak (fun _ _ => trivial)
  have hcap := hrow.2.1
  repeat' (first
    | ((apply al_none (t := 10); refine JL_o (OpR_callF en216 rfl (idxFId_r _ a n c xs hsl hn g cap eg pr (fun W hW x hx => hcall W (fun k hk _ => hW k hk) x hx))) rfl rfl ?_; rintro _ _ ⟨⟨rfl, hf⟩ | ⟨k, r, rfl, hx, hr, hf⟩, hE⟩ <;> have hs := hs.ext hE <;> (try (have hkn : k < n := by rw [← hlen]; exact (List.getElem?_eq_some_iff.1 hx).1))))
    | (apply JL_nil)
    | ((apply JL_pure); (first
      | (apply as_move; exact OpR_move rfl is_rfl)
      | (apply as_assign; exact OpR_assign rfl is_rfl)
      | (apply as_add; exact OpR_addn rfl rfl (by omega) (by first | (simp only [Int.reduceAdd]; exact rfl) | exact rfl) is_rfl)
      | (apply as_binOp; exact OpR_ibin rfl rfl rfl is_rfl)); first | (exact rfl; exact rfl) | exact rfl)
    | (apply J_seq)
    | (apply J_region)
    | (apply J_block)
    | (apply J_skip)
    | (apply aj_cond; first | refine J_dec_t rfl ob ?_ | refine J_dec_f rfl ob ?_))
  · rw [hf, hlen]
    refine J_leave Tryz.func162 rfl (.tmp rfl .nil) ⟨rfl, St.turned (M := []) hs⟩
  have hf1 : (xs.take (k + 1)).filter (fun x => !pr x) = xs.take k := by rw [keep_succ pr hx, hr, if_pos rfl, hf, List.append_nil]
  have hs0 : St w (Star [Row a n c 29 1 (encL cId xs)]).foot _ [Row a n c 29 1 (encL cId xs)] := hs
  refine J_loopK (α := Nat × Nat × List Int) [(0, _), (1, _)] (fun g => [(5, .int .i64 g.1), (6, .int .i64 g.2.1)]) (fun g w' => St w (Star [Row a n c 29 1 (encL cId xs)]).foot w' [Row a n c 29 1 (encL cId g.2.2)] ∧ (g.1 < g.2.1 ∧ g.2.1 ≤ n) ∧ g.2.2.length = n ∧ g.2.2.take g.1 = (xs.take g.2.1).filter (fun x => !pr x) ∧ g.2.2.drop g.2.1 = xs.drop g.2.1) (fun g => n - g.2.1) (k, k + 1, xs) ⟨hs0, ⟨by dsimp only; omega, by dsimp only; omega⟩, hlen, hf1.symm, rfl⟩ (by repeat' (first | exact trivial | exact rfl | apply And.intro)) ?_
  rintro ⟨i, j, cur⟩ w2 ⟨hs1, ⟨hij, hj⟩, hcl, ht, hd⟩ ih
  dsimp only at hs1 hij hj hcl ht hd ih ⊢
  obtain ⟨b, o, rfl⟩ := (hs1.row a n c).some (by omega)
  have hs : St w (Star [Row (some ⟨b, o, none⟩) n c 29 1 (encL cId xs)]).foot w2 [Row (some ⟨b, o, none⟩) n c 29 1 (encL cId cur)] := hs1
  by_cases hlt : j < n
  · have hx2 : xs[j]? = some (xs[j]'(by omega)) := List.getElem?_eq_getElem (by omega)
    obtain ⟨r2, hrd⟩ : ∃ r, r = xs[j]'(by omega) := ⟨_, rfl⟩
    rw [← hrd] at hx2
    have hc2 : cur[j]? = some r2 := by
      have : (cur.drop j)[0]? = (xs.drop j)[0]? := by rw [hd]
      rw [List.getElem?_drop, List.getElem?_drop, Nat.add_zero] at this
      rw [this]; exact hx2
    have hld : ∀ (q : Nat) (u : Value), (cId r2)[q]? = some u → (encL cId cur)[j * 1 + q]? = some u := fun q u hq => by
      have hq3 : q < 1 := (List.getElem?_eq_some_iff.1 hq).1
      rw [show (encL cId cur)[j * 1 + q]? = (cId r2)[q]? from encL_get (d := dId) cur j q r2 hc2 hq3]; exact hq
    have hdj : cur.drop (j + 1) = xs.drop (j + 1) := by
      have : (cur.drop j).drop 1 = (xs.drop j).drop 1 := by rw [hd]
      rwa [List.drop_drop, List.drop_drop] at this
    have hft := keep_succ pr hx2
    obtain ⟨pb, hpb⟩ : ∃ pb, pb = pr r2 := ⟨_, rfl⟩
    cases pb with
    | false =>
      rw [← hpb, if_neg (by decide), ← ht] at hft
      have hset : encL cId (cur.set i r2) = splice (encL cId cur) (i * 1) (cId r2) := encL_set (d := dId) cur i r2 (by omega)
      repeat' (first
        | ((apply al_none (t := 28); refine JL_o (OpR_callV rfl rfl (Ret.value (cap := cap) eg (hcall _ (fun k hk hf => hs.frm.old k hk (fun h => hf (star_row h))) r2 (List.mem_of_getElem? hx2)))) rfl rfl ?_; rintro _ _ ⟨rfl, hE⟩; have hs := hs.ext hE; rw [← hpb]))
        | ((apply al_unit; refine JL_u (by apply as_store; exact OpR_storeN (b := b) (o := o) (off := i * 1) (n := n) (c := c) (vs := cId r2) hs rfl rfl rfl rfl (fun u hu => by simp only [List.mem_cons, List.not_mem_nil, or_false] at hu; rw [hu]; rfl) (by show i * 1 + 1 ≤ n * 1; omega)) rfl ?_; rintro _ _ ⟨hs, hF⟩; rw [← hset] at hs))
        | (apply JL_nil)
        | ((apply JL_pure); (first
      | (apply as_load; first | exact OpR_load1N (off := j * 1) (n := n) (c := c) hs rfl (by have := hld 0 _ rfl; rwa [Nat.add_zero] at this) is_rfl | exact OpR_load_agg' hs rfl is_rfl)
      | (apply as_move; exact OpR_move rfl is_rfl)
      | (apply as_assign; exact OpR_assign rfl is_rfl)
      | (apply as_add; exact OpR_addn rfl rfl (by omega) (by first | (simp only [Int.reduceAdd]; exact rfl) | exact rfl) is_rfl)
      | (apply as_binOp; exact OpR_ibin rfl rfl rfl is_rfl)
      | (apply as_unOp; exact OpR_not rfl is_rfl)
      | (apply as_b_len; exact OpR_len rfl is_rfl)
      | (apply as_indexAddr; exact OpR_indexAddr rfl rfl (by omega) (by omega) is_rfl)); first | (exact rfl; exact rfl) | exact rfl)
        | (apply J_seq)
        | (apply J_region)
        | (apply J_block)
        | (apply J_inBlock)
        | (apply J_skip)
        | (apply aj_cond; first | refine J_dec_t rfl ob ?_ | refine J_cond_t rfl gb ?_))
      refine ih (i + 1, j + 1, cur.set i r2) _ _ ⟨hs.sel [0] (by decide), ⟨by dsimp only; omega, by dsimp only; omega⟩, by dsimp only; rw [List.length_set]; exact hcl, ?_, ?_⟩ (by dsimp only; omega) (by repeat' (first | exact trivial | exact rfl | apply And.intro))
      · dsimp only
        rw [hft, List.take_add_one, List.getElem?_set_self (by omega), List.take_set_of_le (Nat.le_refl _)]; rfl
      · dsimp only
        rw [List.drop_set_of_lt (by omega)]; exact hdj
    | true =>
      rw [← hpb, if_pos rfl, ← ht, List.append_nil] at hft
      repeat' (first
        | ((apply al_none (t := 28); refine JL_o (OpR_callV rfl rfl (Ret.value (cap := cap) eg (hcall _ (fun k hk hf => hs.frm.old k hk (fun h => hf (star_row h))) r2 (List.mem_of_getElem? hx2)))) rfl rfl ?_; rintro _ _ ⟨rfl, hE⟩; have hs := hs.ext hE; rw [← hpb]))
        | (apply JL_nil)
        | ((apply JL_pure); (first
      | (apply as_load; first | exact OpR_load1N (off := j * 1) (n := n) (c := c) hs rfl (by have := hld 0 _ rfl; rwa [Nat.add_zero] at this) is_rfl | exact OpR_load_agg' hs rfl is_rfl)
      | (apply as_move; exact OpR_move rfl is_rfl)
      | (apply as_assign; exact OpR_assign rfl is_rfl)
      | (apply as_add; exact OpR_addn rfl rfl (by omega) (by first | (simp only [Int.reduceAdd]; exact rfl) | exact rfl) is_rfl)
      | (apply as_binOp; exact OpR_ibin rfl rfl rfl is_rfl)
      | (apply as_unOp; exact OpR_not rfl is_rfl)
      | (apply as_b_len; exact OpR_len rfl is_rfl)
      | (apply as_indexAddr; exact OpR_indexAddr rfl rfl (by omega) (by omega) is_rfl)); first | (exact rfl; exact rfl) | exact rfl)
        | (apply J_seq)
        | (apply J_region)
        | (apply J_block)
        | (apply J_inBlock)
        | (apply J_skip)
        | (apply aj_cond; first | refine J_dec_t rfl ob ?_ | refine J_cond_f rfl gb ?_))
      refine ih (i, j + 1, cur) _ _ ⟨hs.sel [0] (by decide), ⟨by dsimp only; omega, by dsimp only; omega⟩, hcl, hft.symm, hdj⟩ (by dsimp only; omega) (by repeat' (first | exact trivial | exact rfl | apply And.intro))
  · have hjn : j = n := by omega
    subst hjn
    have htk : xs.take j = xs := List.take_of_length_le (by omega)
    rw [htk] at ht
    have hfl : (xs.filter (fun x => !pr x)).length = i := by rw [← ht, List.length_take]; omega
    have hcell : ∀ zs, (splice (encL cId cur) (i * 1) zs).take (i * 1) = encL cId (xs.filter (fun x => !pr x)) := fun zs => by
      have := encL_len (d := dId) cur
      rw [splice_take _ _ _ (by rw [this]; show i * 1 ≤ cur.length * 1; omega), ← ht]; exact (encL_take (d := dId) cur i).symm
    rw [hfl]
    repeat' (first
      | ((apply al_none (t := 38); refine JL_pure (v := .slice (some ⟨b, o + i * 1, none⟩) (j - i) (c - i)) (by apply as_slice; exact OpR_sliceLo (q := i) rfl rfl rfl (by omega) (by omega) (by omega) is_rfl) rfl rfl ?_))
      | ((apply al_unit; refine JL_u (by apply as_b_clear; exact OpR_clear (a := some ⟨b, o, none⟩) (off := i) (n := j) (c := c) (sz := 1) hs rfl rfl (by decide) (fun _ => by simp [add_eq]) (by omega)) rfl ?_; rintro _ _ ⟨rfl, ⟨zs, hzl, hs⟩, hF⟩))
      | (apply JL_nil)
      | ((apply JL_pure); (first
      | (apply as_slice; exact OpR_sliceHi (q := i) rfl rfl rfl (by omega) is_rfl)
      | (apply as_move; exact OpR_move rfl is_rfl)
      | (apply as_assign; exact OpR_assign rfl is_rfl)
      | (apply as_binOp; exact OpR_ibin rfl rfl rfl is_rfl)
      | (apply as_b_len; exact OpR_len rfl is_rfl)); first | (exact rfl; exact rfl) | exact rfl)
      | (apply J_seq)
      | (apply J_region)
      | (apply aj_exit; refine J_exit rfl ?_)
      | (apply aj_cond; refine J_dec_f rfl ob ?_))
    have hs := hs.cutRow i c (by omega) (by omega) (Nat.le_refl _)
    rw [hcell] at hs
    refine J_leave Tryz.func162 rfl (.tmp rfl .nil) ⟨rfl, St.turned (M := []) hs⟩
end Go.Eng
/- Referrers: the changes of a row; what is told. -/
namespace Go.Eng
open Go.Proofs
set_option linter.unusedSimpArgs false
set_option linter.unusedVariables false
theorem oldF {w W : World} {a : Option Addr} {n c e sz b : Nat} {xs : List Value} {L : List HP} (hs : St w (Star [Row a n c e sz xs]).foot W L) {o : Obj} (hb : w.heap[b]? = some o) (hsep : ¬ afoot a b) : W.heap[b]? = some o :=
  (hs.frm.old b (Array.getElem?_eq_some_iff.1 hb).1 (fun h => hsep (star_row h))).trans hb
theorem ins_cells {xs : List HH} {h : HH} {i : Nat} (hi : i ≤ xs.length) : (encL cH xs).take (i * 2) ++ [.int .i64 h.1, .int .u64 h.2] ++ (encL cH xs).drop (i * 2) = encL cH (xs.take i ++ h :: xs.drop i) := by
  rw [encL_app, encL_cons, encL_take (d := dHeld), encL_drop (d := dHeld)]
  show _ ++ cH h ++ _ = _ ++ (cH h ++ _)
  rw [List.append_assoc]; rfl
theorem one_encH (xs : List HH) : ∀ u ∈ encL cH xs, u.oneCell' = true := fun u hu => by
  obtain ⟨x, _, hx⟩ := List.mem_flatMap.1 hu
  simp only [List.mem_cons, List.not_mem_nil, or_false] at hx
  rcases hx with rfl | rfl <;> rfl
/-- Where a search ends in a row in order, one more has its place. -/
theorem cut_with {xs : List HH} {h : HH} {i : Nat} (hs : sortedH xs) (hn : h ∉ xs) (hc : Cut (atH xs h) xs.length i) : xs.take i ++ h :: xs.drop i = withH xs h := by
  have hne : ∀ a x, xs[a]? = some x → x ≠ h := fun a x hx e => hn (e ▸ List.mem_of_getElem? hx)
  refine with_at hs hn hc.le (fun a x hx ha => ?_) (fun a x hx ha => ?_)
  · have h1 := hc.lo (by omega)
    have hi1 : xs[i - 1]? = some (xs[i - 1]'(by have := hc.le; omega)) := List.getElem?_eq_getElem (by have := hc.le; omega)
    rw [atH_some hi1] at h1
    have h2 := cmpH_neg.1 h1
    by_cases e : a = i - 1
    · subst e
      rw [hi1] at hx
      rw [← Option.some.inj hx]; exact h2
    · exact ahead_trans (adj_pairwise hs hx hi1 (by omega)) h2
  · have hil : i < xs.length := by have := (List.getElem?_eq_some_iff.1 hx).1; omega
    have h1 := hc.hi hil
    have hi1 : xs[i]? = some (xs[i]'hil) := List.getElem?_eq_getElem hil
    rw [atH_some hi1] at h1
    have h2 : aheadH h (xs[i]'hil) = true := by
      rcases ahead_tri h (xs[i]'hil) with e | e | e
      · exact e
      · exact absurd e.symm (hne i _ hi1)
      · have := cmpH_neg.2 e; omega
    by_cases e : a = i
    · subst e
      rw [hi1] at hx
      rw [← Option.some.inj hx]; exact h2
    · exact ahead_trans h2 (adj_pairwise hs hi1 hx (by omega))
theorem without_filter (xs : List HH) (h : HH) : xs.filter (fun x => !decide (x = h)) = withoutH xs h := by
  unfold withoutH
  congr 1
  funext x
  by_cases e : x = h <;> simp [e]
attribute [local irreducible] Hold J JL JD JX JXat OpR OpG Ret RetV Is Blk Row MapC
set_option maxRecDepth 100000
set_option maxHeartbeats 1000000
theorem put1_r (w : World) (a : Option Addr) (n c : Nat) (xs : List HH) (h : HH) (b1 : Nat) (hh : Held w [RowH a n c xs]) (hl : xs.length = n) (hok : ∀ x ∈ xs, okH x) (ho : okH h) (hb1 : w.heap[b1]? = some (.cells #[.int .i64 h.1, .int .u64 h.2] 31 (0, 0))) (hsep : ¬ afoot a b1) (hsrt : sortedH xs) (hnot : h ∉ xs) (hn : n ≤ 1000000) :
    Ret Tryz.prog 75 #[.slice a n c, ptr b1] w fun v w' => ∃ a' c', v = .slice a' (withH xs h).length c' ∧ Turn w [RowH a n c xs] w' [RowH a' (withH xs h).length c' (withH xs h)] := by
  refine Ret_of (l := [_, _]) Tryz.func75 rfl Tryz.ntmps75 (by simp) ?_
  have hs := hh.st
  repeat' (first
    | ((apply al_call 76; refine JL_o (by exact OpR_callF en76 rfl (bsh_r _ a n c xs h (slH hs (by repeat (first | exact List.Mem.head _ | apply List.Mem.tail)) hok) ho (by omega))) rfl rfl ?_; rintro _ _ ⟨i, hcut, rfl, hE⟩; have hs := hs.ext hE; (try simp only [List.cons_append, List.nil_append] at hs)))
    | ((apply al_none (t := 16); have hile := hcut.le; have hs2 : St w (Star [RowH a n c xs]).foot _ ([RowH a n c xs, Blk b15 (.cells #[.int .i64 h.1, .int .u64 h.2] 31 (0, 0))] ++ []) := hs.sel [1, 0] (by decide); refine JL_o (OpR_callF en78 rfl (insH_r _ a n c i (encL cH xs) (.int .i64 h.1) (.int .u64 h.2) b15 (St.held (A := [_, _]) hs2) hile hn (one_encH xs) (fun u hu => by simp only [List.mem_cons, List.not_mem_nil, or_false] at hu; rcases hu with rfl | rfl <;> rfl))) rfl rfl ?_; rintro _ _ ⟨a4, c4, rfl, ht⟩; have hs := St.take (A := [_, _]) (A' := [_]) hs2 ht))
    | (apply JL_nil)
    | ((apply JL_pure); (first
      | (apply as_load; first | exact OpR_load' hs rfl rfl is_rfl | exact OpR_load_agg' hs rfl is_rfl | exact OpR_load_cells (vs := cH h) rfl (fun j v hj => cell_blk (oldF hs hb1 hsep) (by rw [Nat.zero_add]; exact hj)) rfl is_rfl)
      | (apply as_move; exact OpR_move rfl is_rfl)
      | (apply as_assign; exact OpR_assign rfl is_rfl)
      | (apply as_extract; exact OpR_extract rfl rfl is_rfl)); first | (exact rfl; exact rfl) | exact rfl)
    | (apply J_seq)
    | (apply J_region)
    | (apply al_none (t := 15); refine JL_o (by apply as_buildSlice; exact OpR_buildSlice hs rfl (by omega) rfl) rfl rfl ?_; rintro _ _ ⟨b15, rfl, hb15, hs, hE⟩))
  rw [← hl] at hcut
  rw [ins_cells (by omega), cut_with hsrt hnot hcut] at hs
  have hwl : (withH xs h).length = n + 1 := by rw [← cut_with hsrt hnot hcut, List.length_append, List.length_cons, List.length_take, List.length_drop]; omega
  rw [hwl]
  refine J_leave Tryz.func75 rfl (.tmp rfl .nil) ⟨a4, c4, rfl, St.turned (M := []) hs⟩
theorem drop11_r (w : World) (x h : HH) (b1 : Nat) (hb1 : w.heap[b1]? = some (.cells #[.int .i64 h.1, .int .u64 h.2] 31 (0, 0))) : Ret Tryz.prog 81 #[.agg (cH x).toArray, ptr b1] w fun v w' => v = .bool (decide (x = h)) ∧ Ext w w' := by
  refine Ret_of (l := [_, _]) Tryz.func81 rfl Tryz.ntmps81 (by simp) ?_
  have hs := St.init w
  have hb1l := (Array.getElem?_eq_some_iff.1 hb1).1
  repeat' (first
    | (apply JL_nil)
    | ((apply JL_pure); (first
      | (apply as_load; first | exact OpR_load' hs rfl rfl is_rfl | exact OpR_load_agg' hs rfl is_rfl | exact OpR_load_cells (vs := cH h) rfl (fun j v hj => cell_blk ((hs.frm.old b1 hb1l id).trans hb1) (by rw [Nat.zero_add]; exact hj)) rfl is_rfl)
      | (apply as_assign; exact OpR_assign rfl is_rfl)
      | (apply as_binOp; exact OpR_eqT rfl rfl is_rfl)); first | (exact rfl; exact rfl) | exact rfl)
    | (apply J_seq)
    | (apply J_region)
    | (apply al_none (t := 2); refine JL_o (by apply as_box; exact OpR_box' hs rfl) rfl rfl ?_; rintro _ _ ⟨b2, rfl, hb2, hs, hE⟩))
  refine J_leave Tryz.func81 rfl (.tmp rfl .nil) ⟨?_, hs.frm.ext⟩
  show Value.bool _ = Value.bool _
  congr 1
  rw [decide_eq_decide]; exact hh_eq
theorem drop1_r (w : World) (a : Option Addr) (n c : Nat) (xs : List HH) (h : HH) (b1 : Nat) (hh : Held w [RowH a n c xs]) (hok : ∀ x ∈ xs, okH x) (hb1 : w.heap[b1]? = some (.cells #[.int .i64 h.1, .int .u64 h.2] 31 (0, 0))) (hsep : ¬ afoot a b1) (hn : n ≤ 1000000) :
    Ret Tryz.prog 79 #[.slice a n c, ptr b1] w fun v w' => ∃ a' c', v = .slice a' (withoutH xs h).length c' ∧ Turn w [RowH a n c xs] w' [RowH a' (withoutH xs h).length c' (withoutH xs h)] := by
  refine Ret_of (l := [_, _]) Tryz.func79 rfl Tryz.ntmps79 (by simp) ?_
  have hs := hh.st
  rw [← without_filter]
  repeat' (first
    | ((apply al_none (t := 6); have hb2 := oldF hs hb1 hsep; refine JL_o (OpR_callF en80 rfl (delFH_r _ a n c xs (St.held (A := [_]) hs) hok (by omega) 81 #[ptr b1] en81 (fun x => decide (x = h)) (fun W hW x hx => drop11_r W x h b1 ((hW b1 (Array.getElem?_eq_some_iff.1 hb2).1 hsep).trans hb2)))) rfl rfl ?_; rintro _ _ ⟨rfl, ht⟩; have hs := St.take (A := [_]) (A' := [_]) hs ht))
    | (apply JL_nil)
    | ((apply JL_pure); (first
      | (apply as_move; exact OpR_move rfl is_rfl)
      | (apply as_assign; exact OpR_assign rfl is_rfl)
      | (apply as_makeFunc; exact OpR_func rfl is_rfl)); first | (exact rfl; exact rfl) | exact rfl)
    | (apply J_seq)
    | (apply J_region))
  refine J_leave Tryz.func79 rfl (.tmp rfl .nil) ⟨a, c, rfl, St.turned (M := []) hs⟩
end Go.Eng
/- Referrers: is it told? -/
namespace Go.Eng
open Go.Proofs
set_option linter.unusedSimpArgs false
set_option linter.unusedVariables false
theorem refOld {w : World} {r : RRef} {x : RH} (h : mRef.rel All w r x) : mRef.rel (fun k => k < w.heap.size) w r x :=
  ⟨h.1, ((show Sl dHeld All w r.2.1 r.2.2.1 r.2.2.2 x.2 from h.2).foc).weak (fun k hk => Sl.below (d := dHeld) (by decide) (show Sl dHeld All w r.2.1 r.2.2.1 r.2.2.2 x.2 from h.2) k hk)⟩
theorem sl_old {w : World} {a : Option Addr} {n c : Nat} {l : List RH} (h : Sl dRef All w a n c l) : Sl dRef (fun k => k < w.heap.size) w a n c l := by
  obtain ⟨rs, hr, hm⟩ := Sl.raw (D := rawRef) h
  exact Sl.unraw (D := rawRef) (hr.foc.weak (fun k hk => Sl.below (d := dRRef) (by decide) hr k hk)) ⟨hm.1, fun i r x hr hx => refOld (hm.2 i r x hr hx)⟩
theorem under_has {A : List HH} {h : HH} : h ∈ underH A (partsM h.2).1 ↔ h ∈ A := by
  rw [underH_mem]
  exact ⟨fun h => h.1, fun hm => ⟨hm, ment_iff.2 (.inl rfl)⟩⟩
theorem St.sepA {w0 w : World} {F : Nat → Prop} {A L : List HP} {c : HP} {k : Nat} (h : St w0 F w (A ++ L)) (hc : c ∈ L) (hA : (Star A).foot k) (hk : c.foot k) : False := by
  obtain ⟨d, hd, hdk⟩ := hA
  exact (List.pairwise_append.1 h.sep).2.2 d hd c hc k hdk hk
theorem blk_foot (b : Nat) (o : Obj) : (Blk b o).foot b := rfl
attribute [local irreducible] Hold J JL JD JX JXat OpR OpG Ret RetV Is Blk Row MapC
set_option maxRecDepth 100000
set_option maxHeartbeats 1000000
theorem told_r (w : World) (a : Option Addr) (n c : Nat) (l : List RH) (h : HH) (hl : Sl dRef All w a n c l) (hn : n ≤ 1000000000) (hok : OkR l) (ho : okH h) :
    Ret Tryz.prog 73 #[.slice a n c, .agg (cH h).toArray] w fun v w' => v = .bool (decide (h ∈ allH l)) ∧ Ext w w' := by
  refine Ret_of (l := [_, _]) Tryz.func73 rfl Tryz.ntmps73 (by simp) ?_
  have hs := St.init w
  obtain ⟨U, hU⟩ : ∃ U, U = underH (allH l) (partsM h.2).1 := ⟨_, rfl⟩
  have hUh : h ∈ U ↔ h ∈ allH l := by rw [hU]; exact under_has
  repeat' (first
    | ((apply al_call 150; refine JL_o (by exact OpR_callF en150 rfl (both_r _ h.2 ho.2)) rfl rfl ?_; rintro _ _ ⟨rfl, hE⟩; have hs := hs.ext hE; (try simp only [List.cons_append, List.nil_append] at hs)))
    | ((apply al_call 144; refine JL_o (by exact OpR_callF en144 rfl (under_r _ a n c (partsM h.2).1)) rfl rfl ?_; rintro _ _ ⟨b1, b2, rfl, hf⟩; have hs := hs.fresh hf; (try simp only [List.cons_append, List.nil_append] at hs)))
    | (apply JL_nil)
    | ((apply JL_pure); (first
      | (apply as_move; exact OpR_move rfl is_rfl)
      | (apply as_fieldAddr; exact OpR_fieldAddr0 rfl rfl is_rfl)
      | (apply as_load; exact OpR_load' hs rfl rfl is_rfl)
      | (apply as_index; exact OpR_index rfl rfl (by omega) (by omega) rfl is_rfl)); first | (exact rfl; exact rfl) | exact rfl)
    | (apply J_seq)
    | (apply J_region)
    | (apply J_block)
    | (apply al_none (t := 3); refine JL_o (by apply as_box; exact OpR_box' hs rfl) rfl rfl ?_; rintro _ _ ⟨b3, rfl, hb3, hs, hE⟩)
    | (apply al_none (t := 4); refine JL_o (by apply as_alloc; exact OpR_alloc' hs) rfl rfl ?_; rintro _ _ ⟨b4, rfl, hb4, hs, hE⟩))
  have hbt := hs.blk (b := b1)
  have hbl := hs.blk (b := b2)
  have hlt1 := hs.lt (b := b1)
  have hlt2 := hs.lt (b := b2)
  have hs0 : St w NoF _ ([Blk b4 (.cells #[.bool false] 4 (0, 0)), Blk b3 (.cells #[.int .i64 h.1, .int .u64 h.2] 31 (0, 0))] ++ [Blk b2 _, Blk b1 _]) := hs.sel [2, 3, 0, 1] (by decide)
  have hit := underIt_okR (fun k => k < w.heap.size) _ b1 b2 a n c l (partsM h.2).1 ((sl_old hl).loc (fun k hk _ => hs0.frm.old k hk id)) hn hok hbt hbl
  rw [← hU] at hit
  refine J_range (ps := [12]) hs0 rfl ⟨203, #[ptr b1, ptr b2], rfl, en203⟩ hit
    (fun k A => A = [Blk b4 (.cells #[.bool false] 4 (0, 0)), Blk b3 (.cells #[.int .i64 h.1, .int .u64 h.2] 31 (0, 0))] ∧ ∀ x ∈ U.take k, x ≠ h)
    (fun j A => (j = .ret ∧ h ∈ U) ∧ A = [Blk b4 (.cells #[.bool true] 4 (0, 0)), Blk b3 (.cells #[.int .i64 h.1, .int .u64 h.2] 31 (0, 0))]) ⟨rfl, fun x hx => by cases hx⟩ ?_ (by decide) ?_ ?_ ?_ ?_
  · rintro k (⟨hk, hk2⟩ | rfl | rfl)
    · exact ⟨rfl, fun hf => by have := hs0.foot0 k hf; omega, hk2⟩
    · exact ⟨rfl, fun hf => hs0.sepA (.tail _ (.head _)) hf (blk_foot _ _), hlt1⟩
    · exact ⟨rfl, fun hf => hs0.sepA (.head _) hf (blk_foot _ _), hlt2⟩
  · rintro i vals cx ⟨_, _, rfl, _⟩; rfl
  · rintro l2 D tm k w1 A1 cx vals hD hDl hk ⟨rfl, hG⟩ ⟨x, hx, rfl, rfl⟩ hh hold
    have hs : St _ _ _ [_, _, _] := hh.st
    have htk : U.take (k + 1) = U.take k ++ [x] := by rw [List.take_add_one, hx]; rfl
    by_cases hxh : x = h
    · have hc2 : decide (x.1 = h.1 ∧ x.2 = h.2) = true := decide_eq_true (hh_eq.2 hxh)
      repeat' (first
        | ((refine J_beginRound hs (fun w2 hs => ?_)))
        | (apply JL_nil)
        | ((apply JL_pure); (first
      | (apply as_load; exact OpR_load_agg' hs rfl is_rfl)
      | (apply as_binOp; exact OpR_eqT rfl rfl is_rfl)); first | (exact rfl; exact rfl) | exact rfl)
        | (apply J_seq)
        | (apply J_region)
        | (apply J_block)
        | (apply al_none (t := 5); refine JL_o (by apply as_alloc; exact OpR_alloc' hs) rfl rfl ?_; rintro _ _ ⟨b5, rfl, hb5, hs, hE⟩)
        | (apply al_unit; refine JL_u (by apply as_store; exact OpR_store' hs rfl rfl rfl) rfl ?_; rintro _ _ ⟨hs, hF⟩)
        | (apply aj_cond; refine J_cond_t rfl gb ?_))
      have hs : St _ _ _ [_, _, _] := hs.sel [1, 2, 3] (by decide)
      refine J_roundRet hs (fun w3 hs => .inr ⟨rfl, .ret, [Blk b4 (.cells #[.bool true] 4 (0, 0)), Blk b3 _], ⟨⟨rfl, hxh ▸ List.mem_of_getElem? hx⟩, rfl⟩, St.turned (M := []) hs⟩)
    · have hc2 : decide (x.1 = h.1 ∧ x.2 = h.2) = false := decide_eq_false (fun e => hxh (hh_eq.1 e))
      repeat' (first
        | ((refine J_beginRound hs (fun w2 hs => ?_)))
        | (apply JL_nil)
        | ((apply JL_pure); (first
      | (apply as_load; exact OpR_load_agg' hs rfl is_rfl)
      | (apply as_binOp; exact OpR_eqT rfl rfl is_rfl)); first | (exact rfl; exact rfl) | exact rfl)
        | (apply J_seq)
        | (apply J_region)
        | (apply J_block)
        | (apply J_inBlock)
        | (apply J_skip)
        | (apply al_none (t := 5); refine JL_o (by apply as_alloc; exact OpR_alloc' hs) rfl rfl ?_; rintro _ _ ⟨b5, rfl, hb5, hs, hE⟩)
        | (apply al_unit; refine JL_u (by apply as_store; exact OpR_store' hs rfl rfl rfl) rfl ?_; rintro _ _ ⟨hs, hF⟩)
        | (apply aj_cond; refine J_cond_f rfl gb ?_))
      have hs : St _ _ _ [_, _, _] := hs.sel [1, 2, 3] (by decide)
      refine J_roundEnd hs (fun w3 hs => .inl ⟨rfl, _, ⟨rfl, fun z hz => ?_⟩, St.turned (M := []) hs⟩)
      rw [htk] at hz
      rcases List.mem_append.1 hz with e | e
      · exact hG z e
      · rw [List.mem_singleton.1 e]; exact hxh
  · rintro w2 D A2 ⟨rfl, hG⟩ hs
    have hs : St w NoF _ [_, _, _, _, _] := hs
    have hno : h ∉ U := fun hm => by
      rw [List.take_length] at hG
      exact hG h hm rfl
    rw [decide_eq_false (fun hm => hno (hUh.2 hm))]
    repeat' (first
      | ((refine J_retL (Lv_coll hs (fun w3 hs => Lv_nil Tryz.func73 rfl (.scal' hs rfl rfl .nil) ⟨rfl, hs.frm.ext⟩))))
      | (apply JL_nil)
      | (apply J_seq)
      | (apply J_region)
      | (apply J_inBlock)
      | (apply al_unit; refine JL_u (by apply as_store; exact OpR_store' hs rfl rfl rfl) rfl ?_; rintro _ _ ⟨hs, hF⟩))
  · rintro w2 D A2 j ⟨⟨rfl, hm⟩, rfl⟩ hs
    have hs : St w NoF _ [_, _, _, _, _] := hs
    rw [decide_eq_true (hUh.1 hm)]
    repeat' (first
      | ((refine J_retL (Lv_coll hs (fun w3 hs => Lv_nil Tryz.func73 rfl (.scal' hs rfl rfl .nil) ⟨rfl, hs.frm.ext⟩)))))
end Go.Eng
