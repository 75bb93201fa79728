/- The texts G25, G26, G27, G29, G34, G35, G31, G36, joined: what of them serves. -/
import Derived.Test.YtcoldgkhlkjjmaaGreatW6
section
namespace Go.Eng
open Go.Proofs
set_option linter.unusedSimpArgs false
set_option linter.unusedVariables false
abbrev cC : Int := 4611686018427387907
abbrev cP : Int := 9223372054034644997
abbrev W1 : List NM := [(true, [], [(cC, 2)], []), (true, [cC], [], [(cC, 1)])]
abbrev W2 : List NM := [(true, [], [(cC, 2)], []), (true, [cC], [(cP, 3)], [(cC, 1)]), (true, [cC, cP], [], [(cP, 2)])]
set_option maxRecDepth 100000
theorem wk1 : goC N00 1 cC true = 0 ∧ gon N00 1 cC true = 2 ∧ goL N00 1 cC true = W1 := ⟨by kernel_rfl, by kernel_rfl, by kernel_rfl⟩
theorem wk2 : goC W1 2 cP true = 0 ∧ gon W1 2 cP true = 3 ∧ goL W1 2 cP true = W2 := ⟨by kernel_rfl, by kernel_rfl, by kernel_rfl⟩
theorem wk3 : goC W2 3 cC false = 0 ∧ gon W2 3 cC false = 4 := ⟨by kernel_rfl, by kernel_rfl⟩
theorem wk4 : drC W2 2 = 0 ∧ xM (drL W2 2) = [1, 3] ∧ xM W2 = [1, 2, 3] := ⟨by kernel_rfl, by kernel_rfl, by kernel_rfl⟩
theorem goE_of {N : List NM} {E : List Ent} {n id : Int} {plus : Bool} (g : GR N) (hc : cH E = true) (hA : allM E = dZ N) : goE N E n id plus = goC N n id plus := by unfold goE; rw [check_iff.2 ⟨g, hc, hA⟩]; rfl
theorem drE_of {N : List NM} {E : List Ent} {n : Int} (g : GR N) (hc : cH E = true) (hA : allM E = dZ N) : drE N E n = drC N n := by unfold drE; rw [check_iff.2 ⟨g, hc, hA⟩]; rfl
theorem wF {N : List NM} {E : List Ent} (g : GR N) (hc : cH E = true) (hA : allM E = dZ N) : rL N E = xM N := by unfold rL; rw [check_iff.2 ⟨g, hc, hA⟩]; rfl
theorem dr_GR {N : List NM} {n : Int} (g : GR N) (h : drC N n = 0) : GR (drL N n) := by
  unfold drC at h
  cases hi : isM N n with
  | false => rw [hi, Bool.false_and] at h; exact absurd h (by decide)
  | true =>
    obtain ⟨p, x, rfl, hx, hu⟩ := isM_true.1 hi
    by_cases h1 : (p : Int) + 1 = 1
    · rw [hi, decide_eq_true h1] at h; exact absurd h (by decide)
    · have e : drL N ((p : Int) + 1) = gK N p := by
        unfold drL drC
        rw [hi, decide_eq_false h1, show ((p : Int) + 1 - 1).toNat = p by omega]; rfl
      rw [e]
      exact drop_GR g hx hu (fun e => h1 (by rw [e]; rfl))
theorem slG {w0 w : World} {F : Nat → Prop} {L : List HP} {a : Option Addr} {n c : Nat} {qs : List QN} {N : List NM} (hs : St w0 F w L) (hq : qs.map fO = N) (hqo : ∀ q ∈ qs, okN q) (h1 : TabN a n c (qs.map rawN) ∈ L) (h2 : OwnN qs ∈ L) : Sl eD All w a n c N := Sl.to hq (slN hs h1 h2 hqo)
theorem GRes.goes {w w' : World} {N : List NM} {E : List Ent} {n id : Int} {plus : Bool} {k : Int} {N' : List NM} {mx : Nat} {v : Value} (r : GRes w (goE N E n id plus) (gon N n id plus) (goL N n id plus) mx v w') (g : GR N) (hc : cH E = true) (hA : allM E = dZ N) (h1 : goC N n id plus = 0) (h2 : gon N n id plus = k) (h3 : goL N n id plus = N') :
    ∃ a' m' c' a2' m2 c2', v = .tuple #[.agg #[.slice a' m' c', .slice a2' m2 c2'], .int .i64 k, .int .i64 0] ∧ m' ≤ mx ∧ GOut w w' N' a' m' c' a2' m2 c2' := by
  rw [goE_of g hc hA, h2, h3] at r
  exact r.ok h1
attribute [local irreducible] Hold J JL JD JX JXat OpR OpG Ret RetV Is Blk Row
set_option maxHeartbeats 2000000
theorem comp3_r (w : World) : Ret Tryz.prog 91 #[.int .i64 3] w fun v w' => v = .tuple #[.int .u64 cC, .int .i64 0] ∧ Ext w w' := by
  refine bI (l := [_]) Tryz.func91 rfl Tryz.ntmps91 (by simp) ?_
  have hs := St.init w
  have h3 : inK .i64 (3 : Int) := by unfold inK; simp only [IntKind.min, IntKind.max, IntKind.bits, IntKind.signed]; omega
  have hin : [(3 : Int)].all (inB 1 24) = true := by decide
  repeat' (first | ((apply aF (t := 5); refine JL_o (by apply bJ; exact bF hs rfl (by omega) rfl) rfl rfl ?_; rintro _ _ ⟨b5, rfl, hb5, hs, hE⟩; have hs := hs.toRow 0 1 1 1 (xs := [3].map (.int .i64)) (Nat.le_refl _) (by unfold maxLen; omega) (by decide) rfl)) | ((apply aL 165; refine JL_o (by exact aA vS rfl (jJ _ 1 24 (some ⟨b5, 0, none⟩) 1 1 [3] ((RowV.sl (hs.row (some ⟨b5, 0, none⟩) 1 1) (fun v hv => by rw [List.mem_singleton.1 hv]; exact h3)).weak (fun _ _ => trivial)))) rfl rfl ?_; rintro _ _ ⟨rfl, hE⟩; rw [hin]; have hs := hs.ext hE; (try simp only [zcc] at hs))) | ((apply aL 166; refine JL_o (by exact aA yP rfl (lF _ 4611686018427387904 0 3 (.inr (.inl rfl)) (by omega) (by omega))) rfl rfl ?_; rintro _ _ ⟨rfl, hE⟩; have hs := hs.ext hE; (try simp only [zcc] at hs))) | (apply aH) | ((apply aC); exact zop; first | (exact rfl; exact rfl) | exact rfl) | (apply aQ) | (apply aB) | (apply aV) | (apply aG; refine bD rfl gb ?_))
  refine aM Tryz.func91 rfl (.tmp rfl (.tmp rfl .nil)) ⟨rfl, hs.frm.ext⟩
theorem pair45_r (w : World) : Ret Tryz.prog 92 #[.int .i64 4, .int .i64 5] w fun v w' => v = .tuple #[.int .u64 cP, .int .i64 0] ∧ Ext w w' := by
  refine bI (l := [_, _]) Tryz.func92 rfl Tryz.ntmps92 (by simp) ?_
  have hs := St.init w
  have h45 : ∀ v ∈ [(4 : Int), 5], inK .i64 v := fun v hv => by
    simp only [List.mem_cons, List.not_mem_nil, or_false] at hv
    unfold inK; simp only [IntKind.min, IntKind.max, IntKind.bits, IntKind.signed]; omega
  have hin : [(4 : Int), 5].all (inB 0 1048578) = true := by decide
  repeat' (first | ((apply aF (t := 8); refine JL_o (by apply bJ; exact bF hs rfl (by omega) rfl) rfl rfl ?_; rintro _ _ ⟨b5, rfl, hb5, hs, hE⟩; have hs := hs.toRow 0 2 2 1 (xs := [4, 5].map (.int .i64)) (Nat.le_refl _) (by unfold maxLen; omega) (by decide) rfl)) | ((apply aL 165; refine JL_o (by exact aA vS rfl (jJ _ 0 1048578 (some ⟨b5, 0, none⟩) 2 2 [4, 5] ((RowV.sl (hs.row (some ⟨b5, 0, none⟩) 2 2) h45).weak (fun _ _ => trivial)))) rfl rfl ?_; rintro _ _ ⟨rfl, hE⟩; rw [hin]; have hs := hs.ext hE; (try simp only [zcc] at hs))) | ((apply aL 166; refine JL_o (by exact aA yP rfl (lF _ 9223372036854775808 4 5 (.inr (.inr rfl)) (by omega) (by omega))) rfl rfl ?_; rintro _ _ ⟨rfl, hE⟩; have hs := hs.ext hE; (try simp only [zcc] at hs))) | (apply aH) | ((apply aC); exact zop; first | (exact rfl; exact rfl) | exact rfl) | (apply aQ) | (apply aB) | (apply aV) | (apply aG; refine bD rfl gb ?_))
  refine aM Tryz.func92 rfl (.tmp rfl (.tmp rfl .nil)) ⟨rfl, hs.frm.ext⟩
theorem wY (w : World) (a1 a2 : Option Addr) (n1 c1 n2 c2 : Nat) (xs ys : List Int) (h1 : Sl (tInt .i64) All w a1 n1 c1 xs) (h2 : Sl (tInt .i64) All w a2 n2 c2 ys) :
    Ret Tryz.prog 48 #[.slice a1 n1 c1, .slice a2 n2 c2] w fun v w' => v = .bool (decide (xs = ys)) ∧ Ext w w' := by
  refine bI (l := [_, _]) Tryz.func48 rfl Tryz.ntmps48 (by simp) ?_
  have hs := St.init w
  have hl1 := h1.len
  have hl2 := h2.len
  have hmx : n1 ≤ 9223372036854775807 := by have h3 := h1.le; have h4 := h1.cap; unfold maxLen at h4; omega
  by_cases hn : n1 = n2
  · subst hn
    repeat' (first | (apply aH) | ((apply aC); exact zop; first | (exact rfl; exact rfl) | exact rfl) | (apply aQ) | (apply aB) | (apply aN) | (apply aV) | (apply aG; refine aZ rfl ob ?_))
    refine bT (α := Nat) [(0, _), (1, _), (12, _)] (fun k => [(13, .int .i64 k)]) (fun k w' => St w NoF w' [] ∧ k ≤ n1 ∧ xs.take k = ys.take k) (fun k => n1 - k) 0 ⟨hs, Nat.zero_le _, rfl⟩ zss ?_
    rintro k w2 ⟨hs1, hk, heq⟩ ih
    have hs : St w NoF w2 [] := hs1
    by_cases hlt : k < n1
    · obtain ⟨p, o, rfl⟩ := h1.sl.addr (by omega)
      obtain ⟨p2, o2, rfl⟩ := h2.sl.addr (by omega)
      have hs : St w NoF w2 [] := hs1
      have hx : xs[k]? = some (xs[k]'(by omega)) := List.getElem?_eq_getElem (by omega)
      have hy : ys[k]? = some (ys[k]'(by omega)) := List.getElem?_eq_getElem (by omega)
      obtain ⟨x, hxd⟩ : ∃ x, x = xs[k]'(by omega) := ⟨_, rfl⟩
      obtain ⟨y, hyd⟩ : ∃ y, y = ys[k]'(by omega) := ⟨_, rfl⟩
      rw [← hxd] at hx
      rw [← hyd] at hy
      by_cases hc : x = y
      · have hc2 : x = y := hc
        repeat' (first | (apply aH) | ((first | (apply aC) | (apply JX_f; exact rfl; intro W X hs)); (first | (apply aT; first | exact aX (b := p) (o := o) (i := k) (j := 0) (h1.st hs) hx rfl rfl rfl aI | exact aX (b := p2) (o := o2) (i := k) (j := 0) (h2.st hs) hy rfl rfl rfl aI) | exact zop); first | (exact rfl; exact rfl) | exact rfl) | (apply aQ) | (apply aB) | (apply aN) | (apply aW) | (apply aV) | (apply aG; first | refine aS rfl ob ?_ | refine aZ rfl ob ?_) | (apply bV; (refine bQ (id := 6) [0, 0, 3, 7, 0, 0, 48, 112, 255] [(0, 0), (1, 0), (2, 0), (3, 0), (4, 0), (5, 0), (6, 0), (7, 0), (8, 0)] [] hs cQ (by kernel_rfl) (by kernel_rfl) (by kernel_rfl) (by kernel_rfl) (by kernel_rfl) ?_)) | (refine bU (fun W hs => ?_)) | (apply cB))
        refine ih (k + 1) _ _ ⟨hs, hlt, eY hx (by rw [hc]; exact hy) heq⟩ (by omega) zss
      · have hc2 : ¬ x = y := hc
        repeat' (first | (apply aH) | ((first | (apply aC) | (apply JX_f; exact rfl; intro W X hs)); (first | (apply aT; first | exact aX (b := p) (o := o) (i := k) (j := 0) (h1.st hs) hx rfl rfl rfl aI | exact aX (b := p2) (o := o2) (i := k) (j := 0) (h2.st hs) hy rfl rfl rfl aI) | exact zop); first | (exact rfl; exact rfl) | exact rfl) | (apply aQ) | (apply aB) | (apply aN) | (apply aV) | (apply aG; refine aS rfl ob ?_) | (apply bV; (refine bQ (id := 6) [0, 0, 3, 7, 0, 0, 48, 112, 255] [(0, 0), (1, 0), (2, 0), (3, 0), (4, 0), (5, 0), (6, 0), (7, 0), (8, 0)] [] hs cQ (by kernel_rfl) (by kernel_rfl) (by kernel_rfl) (by kernel_rfl) (by kernel_rfl) ?_)) | (refine bU (fun W hs => ?_)) | (apply cB))
        refine aM Tryz.func48 rfl (.tmp rfl .nil) ⟨congrArg Value.bool (decide_eq_false fun e => hc (by subst e; rw [hx] at hy; exact Option.some.inj hy)).symm, hs.frm.ext⟩
    · rw [List.take_of_length_le (by omega), List.take_of_length_le (by omega)] at heq
      repeat' (first | (apply aH) | ((apply aC); exact zop; first | (exact rfl; exact rfl) | exact rfl) | (apply aQ) | (apply aB) | (apply bG; refine bP rfl ?_) | (apply aG; refine aZ rfl ob ?_))
      refine aM Tryz.func48 rfl (.tmp rfl .nil) ⟨congrArg Value.bool (decide_eq_true heq).symm, hs.frm.ext⟩
  · repeat' (first | (apply aH) | ((apply aC); exact zop; first | (exact rfl; exact rfl) | exact rfl) | (apply aQ) | (apply aB) | (apply aG; refine aS rfl ob ?_))
    refine aM Tryz.func48 rfl (.tmp rfl .nil) ⟨congrArg Value.bool (decide_eq_false fun e => hn (by rw [← hl1, ← hl2, e])).symm, hs.frm.ext⟩
theorem aA6 (w : World) : Ret Tryz.prog 30 #[] w fun v w' => v = .bool true ∧ Ext w w' := by
  refine bI (l := []) Tryz.func30 rfl Tryz.ntmps30 (by simp) ?_
  have hs := St.init w
  obtain ⟨a1, a2, a3⟩ := wk1
  obtain ⟨b1, b2, b3⟩ := wk2
  obtain ⟨c1, c2⟩ := wk3
  obtain ⟨d1, d2, d3⟩ := wk4
  have g0 := gr_new
  have g1 : GR W1 := by have := go_GR g0 a1; rw [a3] at this; exact this
  have g2 : GR W2 := by have := go_GR g1 b1; rw [b3] at this; exact this
  have z0 : szN N00 := by decide
  have z1 : szN W1 := by decide
  have z2 : szN W2 := by decide
  have i1 : inK .i64 (1 : Int) := by unfold inK; simp only [IntKind.min, IntKind.max, IntKind.bits, IntKind.signed]; omega
  have i2 : inK .i64 (2 : Int) := by unfold inK; simp only [IntKind.min, IntKind.max, IntKind.bits, IntKind.signed]; omega
  have i3 : inK .i64 (3 : Int) := by unfold inK; simp only [IntKind.min, IntKind.max, IntKind.bits, IntKind.signed]; omega
  have iC : okId cC := by show inK .u64 (4611686018427387907 : Int); unfold inK; simp only [IntKind.min, IntKind.max, IntKind.bits, IntKind.signed]; omega
  have iP : okId cP := by show inK .u64 (9223372054034644997 : Int); unfold inK; simp only [IntKind.min, IntKind.max, IntKind.bits, IntKind.signed]; omega
  have g4 : GR (drL W2 2) := dr_GR g2 d1
  have z4 : szN (drL W2 2) := by decide
  have h13 : ∀ v ∈ [(1 : Int), 3], inK .i64 v := fun v hv => by
    simp only [List.mem_cons, List.not_mem_nil, or_false] at hv
    unfold inK; simp only [IntKind.min, IntKind.max, IntKind.bits, IntKind.signed]; omega
  have h123 : ∀ v ∈ [(1 : Int), 2, 3], inK .i64 v := fun v hv => by
    simp only [List.mem_cons, List.not_mem_nil, or_false] at hv
    unfold inK; simp only [IntKind.min, IntKind.max, IntKind.bits, IntKind.signed]; omega
  repeat' (first | ((apply aL 91; refine JL_o (by exact aA en91 rfl (comp3_r _)) rfl rfl ?_; rintro _ _ ⟨rfl, hE⟩; have hs := hs.ext hE; (try simp only [zcc] at hs))) | ((apply aL 92; refine JL_o (by exact aA en92 rfl (pair45_r _)) rfl rfl ?_; rintro _ _ ⟨rfl, hE⟩; have hs := hs.ext hE; (try simp only [zcc] at hs))) | ((apply aL 54; refine JL_o (by exact aA en54 rfl (gnew_r _)) rfl rfl ?_; rintro _ _ ⟨t1, u1, t2, m2, u2, rfl, qs0, es0, rs0, ⟨hq0, ho0⟩, ⟨he0, hA0⟩, ⟨hl0, hm0, hx0⟩, hf⟩; have hs := hs.fresh hf; (try simp only [zcc] at hs))) | ((apply aL 35; refine JL_o (by exact aA en35 rfl ((pK _ t1 t2 1 u1 m2 u2 N00 es0 1 cC (slG hs hq0 ho0 zmm zmm) (eM hs zmm zmm) (by omega) hx0 z0 i1 iC).mono (fun _ _ r => r.goes g0 he0 hA0 a1 a2 a3))) rfl rfl ?_; rintro _ _ ⟨t3, k3, u3, t4, m4, u4, rfl, hk3, qs1, es1, rs1, ⟨hq1, ho1⟩, ⟨he1, hA1⟩, ⟨hl1, hm1, hx1⟩, hf⟩; have hs := hs.fresh hf; (try simp only [zcc] at hs))) | ((apply aL 35; refine JL_o (by exact aA en35 rfl ((pK _ t3 t4 k3 u3 m4 u4 W1 es1 2 cP (slG hs hq1 ho1 zmm zmm) (eM hs zmm zmm) (by omega) hx1 z1 i2 iP).mono (fun _ _ r => r.goes g1 he1 hA1 b1 b2 b3))) rfl rfl ?_; rintro _ _ ⟨t5, k5, u5, t6, m6, u6, rfl, hk5, qs2, es2, rs2, ⟨hq2, ho2⟩, ⟨he2, hA2⟩, ⟨hl2, hm2, hx2⟩, hf⟩; have hs := hs.fresh hf; (try simp only [zcc] at hs))) | ((apply aL 36; refine JL_o (by exact aA en36 rfl ((sG _ t5 t6 k5 u5 m6 u6 W2 es2 3 cC (slG hs hq2 ho2 zmm zmm) (eM hs zmm zmm) (by omega) hx2 z2 i3 iC).mono (fun _ _ r => r.goes g2 he2 hA2 c1 c2 rfl))) rfl rfl ?_; rintro _ _ ⟨t7, k7, u7, t8, m8, u8, rfl, hk7, qs3, es3, rs3, ⟨hq3, ho3⟩, ⟨he3, hA3⟩, ⟨hl3, hm3, hx3⟩, hf⟩; have hs := hs.fresh hf; (try simp only [zcc] at hs))) | ((apply aL 38; refine JL_o (by exact aA en38 rfl (((sI _ t5 t6 k5 u5 m6 u6 W2 es2 2 (slG hs hq2 ho2 zmm zmm) (eM hs zmm zmm) (by omega) hx2 z2 i2).mono (fun _ _ r => r.resolve_left (fun e => e.1 (by rw [drE_of g2 he2 hA2]; exact d1)))))) rfl rfl ?_; rintro _ _ ⟨_, t9, k9, u9, t10, m10, u10, rfl, hk9, qs4, es4, rs4, ⟨hq4, ho4⟩, ⟨he4, hA4⟩, ⟨hl4, hm4, hx4⟩, hf⟩; have hs := hs.fresh hf; (try simp only [zcc] at hs))) | ((apply bE 49; refine bM rfl gb (by exact aA en49 rfl ((aA9 _ t9 t10 k9 u9 m10 u10 (drL W2 2) es4 (slG hs hq4 ho4 zmm zmm) (eM hs zmm zmm) (by omega) hx4 z4).mono (fun _ _ r => by rw [wF g4 he4 hA4, d2] at r; exact r))) rfl rfl ?_; rintro _ _ ⟨t11, u11, rfl, hf⟩; have hs := hs.fresh hf; (try simp only [zcc] at hs))) | ((refine bM (t := 81) rfl gb (by apply bJ; exact bF hs rfl (by omega) rfl) rfl rfl ?_; rintro _ _ ⟨q1, rfl, hq1b, hs, hE⟩; have hs := hs.toRow 0 2 2 1 (xs := [(1 : Int), 3].map (.int .i64)) (Nat.le_refl _) (by unfold maxLen; omega) (by decide) rfl)) | ((apply bE 48; refine bM rfl gb (by exact aA en48 rfl (wY _ t11 (some ⟨q1, 0, none⟩) 2 u11 2 2 [1, 3] [1, 3] ((RowV.sl (hs.row t11 2 u11) h13).weak (fun _ _ => trivial)) ((RowV.sl (hs.row (some ⟨q1, 0, none⟩) 2 2) h13).weak (fun _ _ => trivial)))) rfl rfl ?_; rintro _ _ ⟨rfl, hE⟩; have hs := hs.ext hE; (try simp only [zcc] at hs))) | ((apply bE 49; refine bM rfl gb (by exact aA en49 rfl ((aA9 _ t5 t6 k5 u5 m6 u6 W2 es2 (slG hs hq2 ho2 zmm zmm) (eM hs zmm zmm) (by omega) hx2 z2).mono (fun _ _ r => by rw [wF g2 he2 hA2, d3] at r; exact r))) rfl rfl ?_; rintro _ _ ⟨t12, u12, rfl, hf⟩; have hs := hs.fresh hf; (try simp only [zcc] at hs))) | ((refine bM (t := 87) rfl gb (by apply bJ; exact bF hs rfl (by omega) rfl) rfl rfl ?_; rintro _ _ ⟨q2, rfl, hq2b, hs, hE⟩; have hs := hs.toRow 0 3 3 1 (xs := [(1 : Int), 2, 3].map (.int .i64)) (Nat.le_refl _) (by unfold maxLen; omega) (by decide) rfl)) | ((apply bE 48; refine bM rfl gb (by exact aA en48 rfl (wY _ t12 (some ⟨q2, 0, none⟩) 3 u12 3 3 [1, 2, 3] [1, 2, 3] ((RowV.sl (hs.row t12 3 u12) h123).weak (fun _ _ => trivial)) ((RowV.sl (hs.row (some ⟨q2, 0, none⟩) 3 3) h123).weak (fun _ _ => trivial)))) rfl rfl ?_; rintro _ _ ⟨rfl, hE⟩; have hs := hs.ext hE; (try simp only [zcc] at hs))) | (apply aH) | ((first | (apply aC) | (apply bA; exact rfl; exact gb)); exact zop; first | (exact rfl; exact rfl) | exact rfl) | (apply aQ) | (apply aB) | (apply aF (t := 5); refine JL_o (by apply aR; exact aJ hs) rfl rfl ?_; rintro _ _ ⟨b5, rfl, hb5, hs, hE⟩) | (apply aF (t := 8); refine JL_o (by apply aR; exact aJ hs) rfl rfl ?_; rintro _ _ ⟨b8, rfl, hb8, hs, hE⟩) | (apply aF (t := 11); refine JL_o (by apply aR; exact aJ hs) rfl rfl ?_; rintro _ _ ⟨b11, rfl, hb11, hs, hE⟩) | (apply aF (t := 14); refine JL_o (by apply aR; exact aJ hs) rfl rfl ?_; rintro _ _ ⟨b14, rfl, hb14, hs, hE⟩) | (apply aU; refine JL_u (by apply aP; exact aK hs rfl rfl rfl) rfl ?_; rintro _ _ ⟨hs, hF⟩))
  refine aM Tryz.func30 rfl (.tmp rfl .nil) ⟨rfl, hs.frm.ext⟩
end Go.Eng
end
section
namespace Go.Eng
open Go.Proofs
set_option linter.unusedSimpArgs false
set_option linter.unusedVariables false
def cutN (x : NM) : NM := (x.1, x.2.1.take 14, x.2.2.1.take 20, x.2.2.2.take 20)
def gH (N : List NM) : List NM := (N.take 30).map cutN
def iK (E : List Ent) : List Ent := (E.take 128).map cutE
theorem tR (N : List NM) : (gH N).length ≤ 30 := by unfold gH; rw [List.length_map, List.length_take]; omega
theorem gZ (E : List Ent) : (iK E).length ≤ 128 := by unfold iK; rw [List.length_map, List.length_take]; omega
def tiny (k : Nat) (N : List NM) : Prop := N.length ≤ 30 + k ∧ ∀ x ∈ N, x.2.1.length ≤ 14 + k ∧ x.2.2.1.length ≤ 20 + k ∧ x.2.2.2.length ≤ 20 + k
theorem jC (N : List NM) : tiny 0 (gH N) := ⟨tR N, fun x hx => by
  unfold gH at hx
  obtain ⟨y, _, rfl⟩ := List.mem_map.1 hx
  unfold cutN
  refine ⟨?_, ?_, ?_⟩
  · show (y.2.1.take 14).length ≤ _; rw [List.length_take]; omega
  · show (y.2.2.1.take 20).length ≤ _; rw [List.length_take]; omega
  · show (y.2.2.2.take 20).length ≤ _; rw [List.length_take]; omega⟩
theorem tiny.sz {k : Nat} {N : List NM} (h : tiny k N) (hk : k ≤ 1000) : szN N := fun x hx => by
  obtain ⟨h1, h2, h3⟩ := h.2 x hx
  exact ⟨by omega, by omega, by omega⟩
theorem Sl.cutM {α : Type} {d : Ty α} {R : Nat → Prop} {w : World} {a : Option Addr} {n c : Nat} {xs : List α} (h : Sl d R w a n c xs) (m : Nat) : Sl d R w a (min n m) c (xs.take m) := by
  have h1 := h.cut (min n m) (Nat.min_le_left _ _)
  have hl := h.len
  have e : xs.take (min n m) = xs.take m := by rw [← hl, Nat.min_comm, ← List.take_eq_take_min]
  rwa [e] at h1
attribute [local irreducible] Hold J JL JD JX JXat OpR OpG Ret RetV Is Blk Row
set_option maxRecDepth 100000
set_option maxHeartbeats 2000000
theorem kM (w : World) (a a2 : Option Addr) (n c n2 c2 : Nat) (N : List NM) (E : List Ent) (h : Sl eD All w a n c N) (hE0 : Sl dEnt All w a2 n2 c2 E) :
    Ret Tryz.prog 31 #[.agg #[.slice a n c, .slice a2 n2 c2]] w fun v w' => ∃ (qs : List QN) (rs' : List REnt) (a' a2' : Option Addr) (c' c2' : Nat), (qs.map fO = gH N ∧ ∀ q ∈ qs, okN q) ∧ v = .agg #[.slice a' (gH N).length c', .slice a2' (iK E).length c2'] ∧ Fresh w w' [TabN a' (gH N).length c' (qs.map rawN), OwnN qs, bZ a2' (iK E).length c2' rs', Own rs' (iK E)] := by
  refine bI (l := [_]) Tryz.func31 rfl Tryz.ntmps31 (by simp) ?_
  have hs := St.init w
  have hcap1 : n ≤ 9223372036854775807 := by have h1 := h.le; have h2 := h.cap; unfold maxLen at h2; omega
  have hcap2 : n2 ≤ 9223372036854775807 := by have h1 := hE0.le; have h2 := hE0.cap; unfold maxLen at h2; omega
  have hle1 := h.le
  have hle2 := hE0.le
  have h := h.cutM 30
  have hE0 := hE0.cutM 128
  have hl := h.len
  have hl2 := hE0.len
  have hNo := qL h
  have hEo := mC hE0
  obtain ⟨N1, hN1⟩ : ∃ N1, N1 = N.take 30 := ⟨_, rfl⟩
  obtain ⟨E1, hE1⟩ : ∃ E1, E1 = E.take 128 := ⟨_, rfl⟩
  have eN : gH N = N1.map cutN := by unfold gH; rw [hN1]
  have eE : iK E = E1.map cutE := by unfold iK; rw [hE1]
  rw [← hN1] at h hl hNo
  rw [← hE1] at hE0 hl2 hEo
  rw [eN, eE]
  clear eN eE hN1 hE1
  obtain ⟨k1, hk1⟩ : ∃ k1, k1 = min n 30 := ⟨_, rfl⟩
  obtain ⟨k2, hk2⟩ : ∃ k2, k2 = min n2 128 := ⟨_, rfl⟩
  rw [← hk1] at h hl
  rw [← hk2] at hE0 hl2
  obtain ⟨rs, hr, hm⟩ := Sl.raw (D := gD) h
  obtain ⟨re, hre, hme⟩ := Sl.raw (D := fB) hE0
  have hlr := hr.len
  have hlre := hre.len
  repeat' (first | (apply aH) | ((apply aC); (first | (apply dA; exact dL (q := k1) rfl rfl (by omega) (by omega) aI) | exact zop); first | (exact rfl; exact rfl) | exact rfl) | (apply aQ) | (apply aB) | (apply aN) | (apply aF (t := 1); refine JL_o (by apply bN; exact bC hs rfl) rfl rfl ?_; rintro _ _ ⟨b1, rfl, hb1, hs, hE⟩) | (apply aF (t := 2); refine JL_o (by apply aR; exact aJ hs) rfl rfl ?_; rintro _ _ ⟨b2, rfl, hb2, hs, hE⟩) | (apply aF (t := 3); refine JL_o (by apply aR; exact aJ hs) rfl rfl ?_; rintro _ _ ⟨b3, rfl, hb3, hs, hE⟩))
  have hs := hs.nilN.nilRow 79 4
  refine bT (α := Nat × List QN × Option Addr × Nat) [(1, _), (2, _), (3, _), (14, _), (15, _)] (fun g => [(16, .int .i64 g.1)])
    (fun g w' => St w NoF w' [TabN g.2.2.1 g.1 g.2.2.2 (g.2.1.map rawN), OwnN g.2.1, Blk b3 (.cells #[.slice g.2.2.1 g.1 g.2.2.2, .slice none 0 0] 57 (0, 0)), Blk b2 (.cells #[.slice none 0 0, .slice none 0 0] 57 (0, 0)), Blk b1 (.cells #[.slice a n c, .slice a2 n2 c2] 57 (0, 0))] ∧ (g.2.1.map fO = (N1.take g.1).map cutN ∧ ∀ q ∈ g.2.1, okN q) ∧ g.1 ≤ k1)
    (fun g => k1 - g.1) (0, [], none, 0) ⟨hs, ⟨rfl, fun q hq => by cases hq⟩, Nat.zero_le _⟩ zss ?_
  rintro ⟨k, qs, a', c'⟩ w2 ⟨hs1, ⟨hqm, hqo⟩, hk⟩ ih
  dsimp only at hs1 hqm hqo hk ih ⊢
  have hql : qs.length = k := by have := congrArg List.length hqm; rw [List.length_map, List.length_map, List.length_take] at this; omega
  by_cases hlt : k < k1
  · obtain ⟨p, o, rfl⟩ := hr.sl.addr (by omega)
    have hs : St w NoF w2 [_, _, _, _, _] := hs1
    have hx : N1[k]? = some (N1[k]'(by omega)) := List.getElem?_eq_getElem (by omega)
    obtain ⟨x, hxd⟩ : ∃ x, x = N1[k]'(by omega) := ⟨_, rfl⟩
    rw [← hxd] at hx
    obtain ⟨o1, o2, o3⟩ := hNo x (List.mem_of_getElem? hx)
    obtain ⟨r, hrx, f1, f2, f3, f4⟩ := hm.get hx
    have f1 : r.1 = x.1 := f1
    have m1 : Sl dId All w r.2.1.1 r.2.1.2.1 r.2.1.2.2 x.2.1 := f2
    have m2 : Sl dStp All w r.2.2.1.1 r.2.2.1.2.1 r.2.2.1.2.2 x.2.2.1 := f3
    have m3 : Sl dStp All w r.2.2.2.1 r.2.2.2.2.1 r.2.2.2.2.2 x.2.2.2 := f4
    have l1 := m1.le
    have l2 := m2.le
    have l3 := m3.le
    have m1 := m1.cutM 14
    have m2 := m2.cutM 20
    have m3 := m3.cutM 20
    obtain ⟨q1, hq1⟩ : ∃ q, q = min r.2.1.2.1 14 := ⟨_, rfl⟩
    obtain ⟨q2, hq2⟩ : ∃ q, q = min r.2.2.1.2.1 20 := ⟨_, rfl⟩
    obtain ⟨q3, hq3⟩ : ∃ q, q = min r.2.2.2.2.1 20 := ⟨_, rfl⟩
    rw [← hq1] at m1
    rw [← hq2] at m2
    rw [← hq3] at m3
    have g1 := m1.len
    have g2 := m2.len
    have g3 := m3.len
    repeat' (first | ((apply ax_c; apply gG 24; exact rfl; (intro W X hN hs; exact aA en24 rfl (lJ _ r.2.1.1 q1 r.2.1.2.2 (x.2.1.take 14) (m1.st hs) (by omega))); (rintro _ _ _ _ ⟨a5, c5, rfl, hf⟩; first | exact hE | exact Fresh.ext hf); rintro W X _ _ hN hs ⟨a5, c5, rfl, hf⟩; have hs := hs.fresh hf; (try simp only [zcc] at hs); refine JX.at hs ?_)) | ((apply ax_c; apply gG 93; exact rfl; (intro W X hN hs; exact aA en93 rfl (xC _ r.2.2.1.1 q2 r.2.2.1.2.2 (x.2.2.1.take 20) (m2.st hs) (by omega))); (rintro _ _ _ _ ⟨a6, c6, rfl, hf⟩; first | exact hE | exact Fresh.ext hf); rintro W X _ _ hN hs ⟨a6, c6, rfl, hf⟩; have hs := hs.fresh hf; (try simp only [zcc] at hs); refine JX.at hs ?_)) | ((apply ax_c; apply gG 93; exact rfl; (intro W X hN hs; exact aA en93 rfl (xC _ r.2.2.2.1 q3 r.2.2.2.2.2 (x.2.2.2.take 20) (m3.st hs) (by omega))); (rintro _ _ _ _ ⟨a7, c7, rfl, hf⟩; first | exact hE | exact Fresh.ext hf); rintro W X _ _ hN hs ⟨a7, c7, rfl, hf⟩; have hs := hs.fresh hf; (try simp only [zcc] at hs); refine JX.at hs ?_)) | ((apply aF (t := 51); refine JL_o (by apply bW; exact cF (xs := encL cNd (qs.map rawN)) (news := cNd (r.1, (a5, q1, c5), (a6, q2, c6), (a7, q3, c7))) hs rfl rfl (lZ (r := (r.1, (a5, q1, c5), (a6, q2, c6), (a7, q3, c7))) (hs.blk (b := b50))) cJ rfl (by omega) (by unfold maxLen; omega)) rfl rfl ?_; rintro _ _ ⟨a8, c8, rfl, hs, hF, hnil⟩)) | (apply aH) | ((first | (apply aC) | (apply JX_f; exact rfl; intro W X hs)); (first | (apply dA; first | exact dL (q := q1) rfl rfl (by omega) (by omega) aI | exact dL (q := q2) rfl rfl (by omega) (by omega) aI | exact dL (q := q3) rfl rfl (by omega) (by omega) aI) | (apply aT; exact aO (hr.st hs) hrx rfl rfl aI) | exact zop); first | (exact rfl; exact rfl) | exact rfl) | (apply aQ) | (apply aB) | (apply aN) | (apply aW) | (apply aV) | (apply aF (t := 5); refine JL_o (by apply aR; exact aJ hs) rfl rfl ?_; rintro _ _ ⟨b5, rfl, hb5, hs, hE⟩) | (apply aF (t := 50); refine JL_o (by apply bJ; exact bF hs rfl (by omega) rfl) rfl rfl ?_; rintro _ _ ⟨b50, rfl, hb50, hs, hE⟩) | (apply aU; refine JL_u (by apply aP; exact aK hs rfl rfl rfl) rfl ?_; rintro _ _ ⟨hs, hF⟩) | (apply aG; refine aS rfl ob ?_) | (apply bV; (refine bQ (id := 5) [0, 1, 0, 4, 12, 28, 63, 127, 0, 256, 0, 1024, 3072, 7168, 16128, 32767, 0, 65536, 0, 262144, 786432, 1835008, 4128768, 8388607, 987135, 33554431, 67108863, 134217727, 268435455, 536870911] [(0, 0), (1, 0), (2, 0), (3, 0), (4, 0), (5, 0), (6, 0), (8, 0), (9, 0), (10, 0), (11, 0), (12, 0), (13, 0), (14, 0), (16, 0), (17, 0), (18, 0), (19, 0), (20, 0), (21, 0), (22, 0), (7, 1), (24, 0), (15, 1), (23, 1)] [25, 26, 27, 28, 29] hs cQ (by kernel_rfl) (by kernel_rfl) (by kernel_rfl) (by kernel_rfl) (by kernel_rfl) ?_)) | (refine bU (fun W hs => ?_)) | (apply eS; case' hos => (simp only [List.map_cons, List.map_nil, List.getElem?_toArray, List.getElem?_cons_succ, List.getElem?_cons_zero]; repeat' (first | exact fS | apply eR))))
    rw [wG, kS] at hs
    obtain ⟨q, hq⟩ : ∃ q : QN, q = (r.1, ((a5, q1, c5), x.2.1.take 14), ((a6, q2, c6), x.2.2.1.take 20), ((a7, q3, c7), x.2.2.2.take 20)) := ⟨_, rfl⟩
    have hs := St.packN (q := (r.1, ((a5, q1, c5), x.2.1.take 14), ((a6, q2, c6), x.2.2.1.take 20), ((a7, q3, c7), x.2.2.2.take 20))) (L := [OwnN qs, _, _, _, _]) (hs.sel [3, 2, 1, 6, 5, 7, 8, 9] (by decide))
    rw [← hq] at hs
    have hs := St.pushN hs
    have hmp : (qs ++ [q]).map rawN = qs.map rawN ++ [(r.1, (a5, q1, c5), (a6, q2, c6), (a7, q3, c7))] := by rw [List.map_append, hq]; rfl
    have hqok : okN q := by rw [hq]; exact ⟨⟨g1.symm, fun u hu => o1 u (List.mem_of_mem_take hu)⟩, ⟨g2.symm, fun u hu => o2 u (List.mem_of_mem_take hu)⟩, ⟨g3.symm, fun u hu => o3 u (List.mem_of_mem_take hu)⟩⟩
    have hqm2 : fO q = cutN x := by rw [hq]; exact nm_eq.2 ⟨f1, rfl, rfl, rfl⟩
    have htk : N1.take (k + 1) = N1.take k ++ [x] := by rw [List.take_add_one, hx]; rfl
    refine ih (k + 1, qs ++ [q], a8, c8) _ _ ⟨by dsimp only; rw [hmp]; exact hs.sel [1, 0, 2, 3, 4] (by decide), ⟨by dsimp only; rw [List.map_append, hqm, htk, List.map_append]; rw [List.map_cons, hqm2]; rfl, fun u hu => ?_⟩, by dsimp only; omega⟩ (by dsimp only; omega) zss
    rcases List.mem_append.1 hu with e | e
    · exact hqo u e
    · rw [List.mem_singleton.1 e]; exact hqok
  · have hkn : k = k1 := by omega
    subst hkn
    rw [List.take_of_length_le (by omega)] at hqm
    have hs : St w NoF w2 [_, _, _, _, _] := hs1
    repeat' (first | (apply aH) | ((apply aC); (first | (apply dA; exact dL (q := k2) rfl rfl (by omega) (by omega) aI) | exact zop); first | (exact rfl; exact rfl) | exact rfl) | (apply aQ) | (apply aB) | (apply aN) | (apply bG; refine bP rfl ?_) | (apply aG; refine aZ rfl ob ?_))
    clear ih
    have hs := hs.nilOwn.nilRow 139 3
    refine bT (α := Nat × List REnt × Option Addr × Nat) [(2, _), (3, _), (62, _), (63, _)] (fun g => [(64, .int .i64 g.1)])
      (fun g w' => St w NoF w' [bZ g.2.2.1 g.1 g.2.2.2 g.2.1, Own g.2.1 ((E1.take g.1).map cutE), TabN a' k c' (qs.map rawN), OwnN qs, Blk b3 (.cells #[.slice a' k c', .slice g.2.2.1 g.1 g.2.2.2] 57 (0, 0)), Blk b2 (.cells #[.slice none 0 0, .slice none 0 0] 57 (0, 0)), Blk b1 (.cells #[.slice a n c, .slice a2 n2 c2] 57 (0, 0))] ∧ g.1 ≤ k2)
      (fun g => k2 - g.1) (0, [], none, 0) ⟨hs, Nat.zero_le _⟩ zss ?_
    rintro ⟨j, ro, a4, c4⟩ w3 ⟨hs2, hj⟩ ih
    dsimp only at hs2 hj ih ⊢
    by_cases hlt2 : j < k2
    · obtain ⟨p, o, rfl⟩ := hre.sl.addr (by omega)
      have hs : St w NoF w3 [_, _, _, _, _, _, _] := hs2
      have hx : E1[j]? = some (E1[j]'(by omega)) := List.getElem?_eq_getElem (by omega)
      obtain ⟨x, hxd⟩ : ∃ x, x = E1[j]'(by omega) := ⟨_, rfl⟩
      rw [← hxd] at hx
      obtain ⟨r, hrx, hrel⟩ := hme.get hx
      obtain ⟨o1, o2, o3⟩ := hEo x (List.mem_of_getElem? hx)
      have e1 : r.1 = x.1 := hrel.1
      have e3 : r.2.2 = x.2.2 := hrel.2.2
      have m1 : Sl dId All w r.2.1.1 r.2.1.2.1 r.2.1.2.2 x.2.1 := hrel.2.1
      have l1 := m1.le
      have m1 := m1.cutM 14
      obtain ⟨q1, hq1⟩ : ∃ q, q = min r.2.1.2.1 14 := ⟨_, rfl⟩
      rw [← hq1] at m1
      have g1 := m1.len
      repeat' (first | ((apply aL 24; refine JL_o (by exact aA en24 rfl (lJ _ r.2.1.1 q1 r.2.1.2.2 (x.2.1.take 14) (m1.st hs) (by omega))) rfl rfl ?_; rintro _ _ ⟨a5, c5, rfl, hf⟩; have hs := hs.fresh hf; (try simp only [zcc] at hs))) | ((apply aF (t := 82); refine JL_o (by apply bW; exact cF (xs := encL bS ro) (news := bS (r.1, (a5, q1, c5), r.2.2)) hs rfl rfl (jM (r := (r.1, (a5, q1, c5), r.2.2)) (hs.blk (b := b81))) cJ rfl (by omega) (by unfold maxLen; omega)) rfl rfl ?_; rintro _ _ ⟨a8, c8, rfl, hs, hF, hnil⟩)) | (apply aH) | ((apply aC); (first | (apply dA; exact dL (q := q1) rfl rfl (by omega) (by omega) aI) | (apply aT; exact aO (hre.st hs) hrx rfl rfl aI) | exact zop); first | (exact rfl; exact rfl) | exact rfl) | (apply aQ) | (apply aB) | (apply aN) | (apply aW) | (apply aV) | (apply aF (t := 7); refine JL_o (by apply aR; exact aJ hs) rfl rfl ?_; rintro _ _ ⟨b7, rfl, hb7, hs, hE⟩) | (apply aF (t := 81); refine JL_o (by apply bJ; exact bF hs rfl (by omega) rfl) rfl rfl ?_; rintro _ _ ⟨b81, rfl, hb81, hs, hE⟩) | (apply aU; refine JL_u (by apply aP; exact aK hs rfl rfl rfl) rfl ?_; rintro _ _ ⟨hs, hF⟩) | (apply aG; refine aS rfl ob ?_))
      have hcc : encL bS ro ++ bS (r.1, (a5, q1, c5), r.2.2) = encL bS (ro ++ [(r.1, (a5, q1, c5), r.2.2)]) := by rw [fL]; simp [encL]
      rw [show encL bS ro ++ bS (r.1, (a5, q1, c5), r.2.2) = encL bS (ro ++ [(r.1, (a5, q1, c5), r.2.2)]) from hcc] at hs
      have hs : St w NoF _ [_, _, _, _, _, _, _, _] := hs.sel [1, 4, 3, 5, 6, 7, 8, 9] (by decide)
      have hs := St.pushOwn hs g1.symm r.1 r.2.2 (by rw [e1]; exact o1) (by rw [e3]; exact o2) (fun u hu => o3 u (List.mem_of_mem_take hu))
      have hce : (r.1, x.2.1.take 14, r.2.2) = cutE x := by unfold cutE; rw [e1, e3]
      have htk : (E1.take j).map cutE ++ [cutE x] = (E1.take (j + 1)).map cutE := by rw [List.take_add_one, hx, List.map_append]; rfl
      rw [hce, htk] at hs
      refine ih (j + 1, ro ++ [(r.1, (a5, q1, c5), r.2.2)], a8, c8) _ _ ⟨hs.sel [1, 0, 2, 3, 4, 5, 6] (by decide), by dsimp only; omega⟩ (by dsimp only; omega) zss
    · have hkn : j = k2 := by omega
      subst hkn
      rw [List.take_of_length_le (by omega)] at hs2
      have hs : St w NoF w3 [_, _, _, _, _, _, _] := hs2
      repeat' (first | (apply aH) | ((apply aC); exact zop; first | (exact rfl; exact rfl) | exact rfl) | (apply aQ) | (apply aB) | (apply bG; refine bP rfl ?_) | (apply aU; refine JL_u (by apply aP; exact aK hs rfl rfl rfl) rfl ?_; rintro _ _ ⟨hs, hF⟩) | (apply aG; refine aZ rfl ob ?_))
      rw [show (N1.map cutN).length = k by rw [List.length_map, hl], show (E1.map cutE).length = j by rw [List.length_map, hl2]]
      refine aM Tryz.func31 rfl (.agg' hs rfl rfl .nil) ⟨qs, ro, a', a4, c', c4, ⟨hqm, hqo⟩, rfl, (hs.sel [2, 3, 0, 1] (by decide)).out (List.Sublist.refl _)⟩
end Go.Eng
end
section
namespace Go.Eng
open Go.Proofs
set_option linter.unusedSimpArgs false
set_option linter.unusedVariables false
theorem aj_condt (t : Nat) {P : Program} {f : FuncId} {ro : Option Nat} {n : Nat} {R : Value → World → Prop} {k : List Item} {ds : List Deferred} {env : Env} {w : World} {x y : Code} (h : J P f ro n R (.code (.cond (.tmp t) x y) :: k) ds env w) : J P f ro n R (.code (.cond (.tmp t) x y) :: k) ds env w := h
abbrev sameF (x y : Ent) : Bool := decide (x.1 = y.1) && (decide (x.2.2 = y.2.2) && decide (x.2.1 = y.2.1))
theorem sameF_eq (x y : Ent) : sameF x y = decide (x = y) := by
  obtain ⟨xa, xb, xc⟩ := x
  obtain ⟨ya, yb, yc⟩ := y
  by_cases h0 : xa = ya <;> by_cases h : xb = yb <;> by_cases h2 : xc = yc <;> simp [h0, h, h2]
def xW (N : List NM) (E : List Ent) (M : List NM) : Bool := decide (N = M) && (if M.length = 0 then decide (E.length = 0) else cH E && decide (allM E = dZ M))
theorem saysG_ok {N : List NM} {E : List Ent} (g : GR N) (hc : cH E = true) (hA : allM E = dZ N) : xW N E N = true := by
  have hn : N.length ≠ 0 := by
    intro e
    have := (check_iff.2 ⟨g, hc, hA⟩)
    have h0 : N = [] := List.length_eq_zero_iff.1 e
    subst h0
    exact absurd this (by unfold dP tX; simp)
  unfold xW
  rw [decide_eq_true rfl, if_neg hn, hc, decide_eq_true hA]; rfl
theorem saysG_no : xW [] [] [] = true := by decide
attribute [local irreducible] Hold J JL JD JX JXat OpR OpG Ret RetV Is Blk Row
set_option maxRecDepth 100000
set_option maxHeartbeats 2000000
theorem tZ (w : World) (r q : REnt) (x y : Ent) (h1 : mEnt.rel All w r x) (h2 : mEnt.rel All w q y) :
    Ret Tryz.prog 113 #[.agg (bS r).toArray, .agg (bS q).toArray] w fun v w' => v = .bool (sameF x y) ∧ Ext w w' := by
  refine bI (l := [_, _]) Tryz.func113 rfl Tryz.ntmps113 (by simp) ?_
  have hs := St.init w
  have mx : Sl (tInt .u64) All w r.2.1.1 r.2.1.2.1 r.2.1.2.2 x.2.1 := h1.2.1
  have my : Sl (tInt .u64) All w q.2.1.1 q.2.1.2.1 q.2.1.2.2 y.2.1 := h2.2.1
  have e1 : r.1 = x.1 := h1.1
  have f1 : q.1 = y.1 := h2.1
  have e3 : r.2.2 = x.2.2 := h1.2.2
  have f3 : q.2.2 = y.2.2 := h2.2.2
  unfold sameF
  rw [← e3, ← f3, ← e1, ← f1]
  by_cases c0 : r.1 = q.1
  · rw [decide_eq_true c0, Bool.true_and]
    by_cases c : r.2.2 = q.2.2
    · rw [decide_eq_true c, Bool.true_and]
      repeat' (first | ((apply bE 43; refine bM rfl gb (by exact aA en43 rfl (dY _ r.2.1.1 q.2.1.1 r.2.1.2.1 r.2.1.2.2 q.2.1.2.1 q.2.1.2.2 x.2.1 y.2.1 (mx.st hs) (my.st hs))) rfl rfl ?_; rintro _ _ ⟨rfl, hE⟩; have hs := hs.ext hE; (try simp only [zcc] at hs))) | (apply aH) | ((first | (apply aC) | (apply bA; exact rfl; exact gb)); exact zop; first | (exact rfl; exact rfl) | exact rfl) | (apply aQ) | (apply aB) | (apply aF (t := 2); refine JL_o (by apply bN; exact bC hs rfl) rfl rfl ?_; rintro _ _ ⟨b2, rfl, hb2, hs, hE⟩) | (apply aF (t := 3); refine JL_o (by apply bN; exact bC hs rfl) rfl rfl ?_; rintro _ _ ⟨b3, rfl, hb3, hs, hE⟩))
      refine aM Tryz.func113 rfl (.tmp rfl .nil) ⟨rfl, hs.frm.ext⟩
    · rw [decide_eq_false c, Bool.false_and]
      repeat' (first | (apply aH) | ((first | (apply aC) | (apply bA; exact rfl; exact gb)); exact zop; first | (exact rfl; exact rfl) | exact rfl) | (apply aQ) | (apply aB) | (apply aF (t := 2); refine JL_o (by apply bN; exact bC hs rfl) rfl rfl ?_; rintro _ _ ⟨b2, rfl, hb2, hs, hE⟩) | (apply aF (t := 3); refine JL_o (by apply bN; exact bC hs rfl) rfl rfl ?_; rintro _ _ ⟨b3, rfl, hb3, hs, hE⟩) | (apply bK; (refine cY rfl gb rfl ?_)))
      refine aM Tryz.func113 rfl (.tmp rfl .nil) ⟨rfl, hs.frm.ext⟩
  · rw [decide_eq_false c0, Bool.false_and]
    repeat' (first | (apply aH) | ((apply aC); exact zop; first | (exact rfl; exact rfl) | exact rfl) | (apply aQ) | (apply aB) | (apply aF (t := 2); refine JL_o (by apply bN; exact bC hs rfl) rfl rfl ?_; rintro _ _ ⟨b2, rfl, hb2, hs, hE⟩) | (apply aF (t := 3); refine JL_o (by apply bN; exact bC hs rfl) rfl rfl ?_; rintro _ _ ⟨b3, rfl, hb3, hs, hE⟩) | (apply bK; (refine cY rfl gb rfl ?_)))
    refine aM Tryz.func113 rfl (.tmp rfl .nil) ⟨rfl, hs.frm.ext⟩
theorem aBe (w : World) (a1 a2 : Option Addr) (n1 c1 n2 c2 : Nat) (xs ys : List Ent) (h1 : Sl dEnt All w a1 n1 c1 xs) (h2 : Sl dEnt All w a2 n2 c2 ys) (hn : n1 ≤ 1048576) :
    Ret Tryz.prog 112 #[.slice a1 n1 c1, .slice a2 n2 c2, .func (.func 113) #[] #[]] w fun v w' => v = .bool (decide (xs = ys)) ∧ Ext w w' := by
  refine bI (l := [_, _, _]) Tryz.func112 rfl Tryz.ntmps112 (by simp) ?_
  have hs := St.init w
  obtain ⟨rs, hr, hm⟩ := Sl.raw (D := fB) h1
  obtain ⟨qs, hq, hmq⟩ := Sl.raw (D := fB) h2
  have hl := hr.len
  have hl2 := hq.len
  have hle := h1.len
  have hle2 := h2.len
  by_cases hnn : n1 = n2
  · subst hnn
    repeat' (first | (apply aH) | ((apply aC); exact zop; first | (exact rfl; exact rfl) | exact rfl) | (apply aQ) | (apply aB) | (apply aN) | (apply aV) | (apply aG; refine aZ rfl ob ?_))
    refine bT (α := Nat) [(1, _), (2, _), (15, _), (16, _)] (fun k => [(17, .int .i64 k)]) (fun k w' => St w NoF w' [] ∧ k ≤ n1 ∧ xs.take k = ys.take k) (fun k => n1 - k) 0 ⟨hs, by omega, rfl⟩ zss ?_
    rintro k w' ⟨hs1, hk, hG⟩ ih
    by_cases hlt : k < n1
    · obtain ⟨p1, o1', rfl⟩ := hr.sl.addr (by omega)
      obtain ⟨p2, o2', rfl⟩ := hq.sl.addr (by omega)
      have hs : St w NoF w' [] := hs1
      have hx : xs[k]? = some xs[k] := List.getElem?_eq_getElem (by omega)
      have hy : ys[k]? = some ys[k] := List.getElem?_eq_getElem (by omega)
      obtain ⟨x, hxd⟩ : ∃ x, x = xs[k] := ⟨_, rfl⟩
      obtain ⟨y, hyd⟩ : ∃ y, y = ys[k] := ⟨_, rfl⟩
      rw [← hxd] at hx
      rw [← hyd] at hy
      obtain ⟨r, hrx, hrel⟩ := hm.get hx
      obtain ⟨q, hqx, hqel⟩ := hmq.get hy
      have hse := sameF_eq x y
      by_cases hxy : x = y
      · rw [decide_eq_true hxy] at hse
        have hT := eY hx (by rw [hxy]; exact hy) hG
        repeat' (first | ((apply aF (t := 29); refine JL_o (bX rfl rfl (Ret.value (cap := #[]) en113 (tZ _ r q x y (mEnt.loc hrel (fun k _ hk => hs.frm.old k hk id)) (mEnt.loc hqel (fun k _ hk => hs.frm.old k hk id))))) rfl rfl ?_; rintro _ _ ⟨rfl, hE⟩; rw [hse]; have hs := hs.ext hE)) | (apply aH) | ((apply aC); (first | (apply aT; first | exact aO (hr.st hs) hrx rfl rfl aI | exact aO (hq.st hs) hqx rfl rfl aI) | exact zop); first | (exact rfl; exact rfl) | exact rfl) | (apply aQ) | (apply aB) | (apply aN) | (apply aW) | (apply aV) | (apply aF (t := 8); refine JL_o (by apply aR; exact aJ hs) rfl rfl ?_; rintro _ _ ⟨b8, rfl, hb8, hs, hE⟩) | (apply aF (t := 9); refine JL_o (by apply aR; exact aJ hs) rfl rfl ?_; rintro _ _ ⟨b9, rfl, hb9, hs, hE⟩) | (apply aU; refine JL_u (by apply aP; exact aK hs rfl rfl rfl) rfl ?_; rintro _ _ ⟨hs, hF⟩) | (apply aG; first | refine aS rfl ob ?_ | refine bD rfl gb ?_))
        refine ih (k + 1) _ _ ⟨hs.sel [] (by decide), by omega, hT⟩ (by omega) zss
      · rw [decide_eq_false hxy] at hse
        rw [sH hx hy hxy]
        repeat' (first | ((apply aF (t := 29); refine JL_o (bX rfl rfl (Ret.value (cap := #[]) en113 (tZ _ r q x y (mEnt.loc hrel (fun k _ hk => hs.frm.old k hk id)) (mEnt.loc hqel (fun k _ hk => hs.frm.old k hk id))))) rfl rfl ?_; rintro _ _ ⟨rfl, hE⟩; rw [hse]; have hs := hs.ext hE)) | (apply aH) | ((apply aC); (first | (apply aT; first | exact aO (hr.st hs) hrx rfl rfl aI | exact aO (hq.st hs) hqx rfl rfl aI) | exact zop); first | (exact rfl; exact rfl) | exact rfl) | (apply aQ) | (apply aB) | (apply aN) | (apply aV) | (apply aF (t := 8); refine JL_o (by apply aR; exact aJ hs) rfl rfl ?_; rintro _ _ ⟨b8, rfl, hb8, hs, hE⟩) | (apply aF (t := 9); refine JL_o (by apply aR; exact aJ hs) rfl rfl ?_; rintro _ _ ⟨b9, rfl, hb9, hs, hE⟩) | (apply aU; refine JL_u (by apply aP; exact aK hs rfl rfl rfl) rfl ?_; rintro _ _ ⟨hs, hF⟩) | (apply aG; first | refine aS rfl ob ?_ | refine bB rfl gb ?_))
        refine aM Tryz.func112 rfl (.tmp rfl .nil) ⟨rfl, hs.frm.ext⟩
    · have hs : St w NoF w' [] := hs1
      rw [List.take_of_length_le (by omega), List.take_of_length_le (by omega)] at hG
      rw [decide_eq_true hG]
      repeat' (first | (apply aH) | ((apply aC); exact zop; first | (exact rfl; exact rfl) | exact rfl) | (apply aQ) | (apply aB) | (apply bG; refine bP rfl ?_) | (apply aG; refine aZ rfl ob ?_))
      refine aM Tryz.func112 rfl (.tmp rfl .nil) ⟨rfl, hs.frm.ext⟩
  · rw [decide_eq_false (fun e => hnn (by subst e; omega))]
    repeat' (first | (apply aH) | ((apply aC); exact zop; first | (exact rfl; exact rfl) | exact rfl) | (apply aQ) | (apply aB) | (apply aG; refine aS rfl ob ?_))
    refine aM Tryz.func112 rfl (.tmp rfl .nil) ⟨rfl, hs.frm.ext⟩
theorem sF (w : World) (a a2 ab ab2 : Option Addr) (n c n2 c2 m d m2 d2 : Nat) (N M : List NM) (E X : List Ent) (h : Sl eD All w a n c N) (hE0 : Sl dEnt All w a2 n2 c2 E) (h1 : Sl eD All w ab m d M) (hE1 : Sl dEnt All w ab2 m2 d2 X) (hn2 : n2 ≤ 1048576) :
    Ret Tryz.prog 41 #[.agg #[.slice a n c, .slice a2 n2 c2], .agg #[.slice ab m d, .slice ab2 m2 d2]] w fun v w' => v = .bool (decide (N = M) && decide (E = X)) ∧ Ext w w' := by
  refine bI (l := [_, _]) Tryz.func41 rfl Tryz.ntmps41 (by simp) ?_
  have hs := St.init w
  by_cases cN : N = M
  · rw [decide_eq_true cN, Bool.true_and]
    have eN : decide (N = M) = true := decide_eq_true cN
    repeat' (first | ((apply aL 111; refine JL_o (by exact aA yQ rfl (nA _ a ab n c m d N M (h.st hs) (h1.st hs))) rfl rfl ?_; rintro _ _ ⟨rfl, hE⟩; rw [eN]; have hs := hs.ext hE; (try simp only [zcc] at hs))) | ((apply bE 112; refine bM rfl gb (by exact aA en112 rfl (aBe _ a2 ab2 n2 c2 m2 d2 E X (hE0.st hs) (hE1.st hs) hn2)) rfl rfl ?_; rintro _ _ ⟨rfl, hE⟩; have hs := hs.ext hE; (try simp only [zcc] at hs))) | (apply aH) | ((first | (apply aC) | (apply bA; exact rfl; exact gb)); exact zop; first | (exact rfl; exact rfl) | exact rfl) | (apply aQ) | (apply aB) | (apply aF (t := 2); refine JL_o (by apply bN; exact bC hs rfl) rfl rfl ?_; rintro _ _ ⟨b2, rfl, hb2, hs, hE⟩) | (apply aF (t := 3); refine JL_o (by apply bN; exact bC hs rfl) rfl rfl ?_; rintro _ _ ⟨b3, rfl, hb3, hs, hE⟩))
    refine aM Tryz.func41 rfl (.tmp rfl .nil) ⟨rfl, hs.frm.ext⟩
  · rw [decide_eq_false cN, Bool.false_and]
    have eN : decide (N = M) = false := decide_eq_false cN
    repeat' (first | ((apply aL 111; refine JL_o (by exact aA yQ rfl (nA _ a ab n c m d N M (h.st hs) (h1.st hs))) rfl rfl ?_; rintro _ _ ⟨rfl, hE⟩; rw [eN]; have hs := hs.ext hE; (try simp only [zcc] at hs))) | (apply aH) | ((apply aC); exact zop; first | (exact rfl; exact rfl) | exact rfl) | (apply aQ) | (apply aB) | (apply aF (t := 2); refine JL_o (by apply bN; exact bC hs rfl) rfl rfl ?_; rintro _ _ ⟨b2, rfl, hb2, hs, hE⟩) | (apply aF (t := 3); refine JL_o (by apply bN; exact bC hs rfl) rfl rfl ?_; rintro _ _ ⟨b3, rfl, hb3, hs, hE⟩) | (apply bK; (refine cY rfl gb rfl ?_)))
    refine aM Tryz.func41 rfl (.tmp rfl .nil) ⟨rfl, hs.frm.ext⟩
theorem wW (w : World) (a a2 b : Option Addr) (n c n2 c2 m d : Nat) (N M : List NM) (E : List Ent) (h : Sl eD All w a n c N) (hE0 : Sl dEnt All w a2 n2 c2 E) (h1 : Sl eD All w b m d M) (hm1 : m ≤ 1000000) (hn2 : n2 ≤ 1048576) :
    Ret Tryz.prog 40 #[.agg #[.slice a n c, .slice a2 n2 c2], .slice b m d] w fun v w' => v = .bool (xW N E M) ∧ Ext w w' := by
  refine bI (l := [_, _]) Tryz.func40 rfl Tryz.ntmps40 (by simp) ?_
  have hs := St.init w
  have hl := h1.len
  have hl2 := hE0.len
  obtain ⟨rs, hr, hm⟩ := Sl.raw (D := gD) h1
  obtain ⟨re, hre, hme⟩ := Sl.raw (D := fB) hE0
  have hlr := hr.len
  have hlre := hre.len
  have hreo : ∀ r ∈ re, okE r := (hre.srcF).2.2
  obtain ⟨b2, hcb⟩ : ∃ b, cH E = b := ⟨_, rfl⟩
  have hrm : qN E = b2 := by rw [oV, hcb]
  unfold xW
  rw [hl, hl2, hcb]
  by_cases cN : N = M
  rotate_left
  · rw [decide_eq_false cN, Bool.false_and]
    have eN : decide (N = M) = false := decide_eq_false cN
    repeat' (first | ((apply aL 111; refine JL_o (by exact aA yQ rfl (nA _ a b n c m d N M (h.st hs) (h1.st hs))) rfl rfl ?_; rintro _ _ ⟨rfl, hE⟩; rw [eN]; have hs := hs.ext hE; (try simp only [zcc] at hs))) | (apply aH) | ((apply aC); exact zop; first | (exact rfl; exact rfl) | exact rfl) | (apply aQ) | (apply aB) | (apply aF (t := 2); refine JL_o (by apply bN; exact bC hs rfl) rfl rfl ?_; rintro _ _ ⟨b2, rfl, hb2, hs, hE⟩) | (apply aG; refine bB rfl gb ?_))
    refine aM Tryz.func40 rfl (.tmp rfl .nil) ⟨rfl, hs.frm.ext⟩
  rw [decide_eq_true cN, Bool.true_and]
  have eN : decide (N = M) = true := decide_eq_true cN
  by_cases hm0 : m = 0
  · subst hm0
    rw [if_pos rfl, show decide (n2 = 0) = decide ((n2 : Int) = 0) by by_cases e : n2 = 0 <;> simp [e]]
    repeat' (first | ((apply aL 111; refine JL_o (by exact aA yQ rfl (nA _ a b n c 0 d N M (h.st hs) (h1.st hs))) rfl rfl ?_; rintro _ _ ⟨rfl, hE⟩; rw [eN]; have hs := hs.ext hE; (try simp only [zcc] at hs))) | (apply aH) | ((apply aC); exact zop; first | (exact rfl; exact rfl) | exact rfl) | (apply aQ) | (apply aB) | (apply aV) | (apply aF (t := 2); refine JL_o (by apply bN; exact bC hs rfl) rfl rfl ?_; rintro _ _ ⟨b2, rfl, hb2, hs, hE⟩) | (apply aG; first | refine aS rfl ob ?_ | refine bD rfl gb ?_))
    refine aM Tryz.func40 rfl (.tmp rfl .nil) ⟨rfl, hs.frm.ext⟩
  rw [if_neg hm0]
  cases b2 with
  | false =>
    repeat' (first | ((apply aL 111; refine JL_o (by exact aA yQ rfl (nA _ a b n c m d N M (h.st hs) (h1.st hs))) rfl rfl ?_; rintro _ _ ⟨rfl, hE⟩; rw [eN]; have hs := hs.ext hE; (try simp only [zcc] at hs))) | ((apply aL 95; refine JL_o (by exact aA en95 rfl (oC _ a2 n2 c2 E (hE0.st hs) hn2)) rfl rfl ?_; rintro _ _ ⟨rfl, hE⟩; rw [hrm]; have hs := hs.ext hE; (try simp only [zcc] at hs))) | (apply aH) | ((apply aC); exact zop; first | (exact rfl; exact rfl) | exact rfl) | (apply aQ) | (apply aB) | (apply aV) | (apply aF (t := 2); refine JL_o (by apply bN; exact bC hs rfl) rfl rfl ?_; rintro _ _ ⟨b2, rfl, hb2, hs, hE⟩) | (apply bK; (refine cY rfl gb rfl ?_)) | (apply aG; first | refine aZ rfl ob ?_ | refine bD rfl gb ?_))
    refine aM Tryz.func40 rfl (.tmp rfl .nil) ⟨rfl, hs.frm.ext⟩
  | true =>
    have hml : dX M ≤ 1000000 := by unfold dX; exact Nat.le_trans (List.length_filter_le _ _) (by omega)
    have hal : (allM E).length ≤ 1048576 := by rw [(eF E).length_eq]; exact Nat.le_trans (List.length_filter_le _ _) (by omega)
    repeat' (first | ((apply aL 111; refine JL_o (by exact aA yQ rfl (nA _ a b n c m d N M (h.st hs) (h1.st hs))) rfl rfl ?_; rintro _ _ ⟨rfl, hE⟩; rw [eN]; have hs := hs.ext hE; (try simp only [zcc] at hs))) | ((apply aL 95; refine JL_o (by exact aA en95 rfl (oC _ a2 n2 c2 E (hE0.st hs) hn2)) rfl rfl ?_; rintro _ _ ⟨rfl, hE⟩; rw [hrm]; have hs := hs.ext hE; (try simp only [zcc] at hs))) | ((apply bE 97; refine bM rfl gb (by exact aA en97 rfl (all7_r _ a2 n2 c2 re E (hre.st hs) (hme.st hs) hn2)) rfl rfl ?_; rintro _ _ ⟨zs7, a7, c7, hz7, hp7, rfl, hf⟩; have hs := hs.fresh hf; (try simp only [zcc] at hs))) | ((apply bE 98; refine bM rfl gb (by exact aA en98 rfl (oK _ b m d rs M (hr.st hs) (hm.st hs) hm1)) rfl rfl ?_; rintro _ _ ⟨zs8, a8, c8, ⟨hz8, hp8⟩, rfl, hf⟩; have hs := hs.fresh hf; (try simp only [zcc] at hs))) | ((apply bE 96; refine bM rfl gb (by exact aA en96 rfl (aAb _ a7 a8 (allM E).length c7 (dX M) c8 (allM E) (dZ M) (Sl.to hz7 (Sl.unraw (D := fB) (tM (hs.row a7 (allM E).length c7) (zJ hp7 hreo)) (zK (hme.st hs) hp7))) (Sl.to hz8 (Sl.unraw (D := fB) (tM (hs.row a8 (dX M) c8) (sJ hp8 (by omega))) (nF hp8 (hm.st hs)))) hal)) rfl rfl ?_; rintro _ _ ⟨rfl, hE⟩; have hs := hs.ext hE; (try simp only [zcc] at hs))) | (apply aH) | ((first | (apply aC) | (apply bA; exact rfl; exact gb)); exact zop; first | (exact rfl; exact rfl) | exact rfl) | (apply aQ) | (apply aB) | (apply aV) | (apply aF (t := 2); refine JL_o (by apply bN; exact bC hs rfl) rfl rfl ?_; rintro _ _ ⟨b2, rfl, hb2, hs, hE⟩) | (apply aG; first | refine aZ rfl ob ?_ | refine bD rfl gb ?_))
    refine aM Tryz.func40 rfl (.tmp rfl .nil) ⟨rfl, hs.frm.ext⟩
end Go.Eng
end
section
namespace Go.Eng
open Go.Proofs
set_option linter.unusedSimpArgs false
set_option linter.unusedVariables false
section
variable {w0 w : World} {F : Nat → Prop} {L : List HP}
theorem slRN {a : Option Addr} {n c : Nat} {rs : List RNd} (hs : St w0 F w L) (h1 : TabN a n c rs ∈ L) : Sl dRNd All w a n c rs := (RowV.slF (d := dRNd) (hs.all _ h1) (by decide) (fun _ _ => ⟨trivial, trivial, trivial, trivial⟩)).weak (fun _ _ => trivial)
theorem slRow1 {qs : List QN} {q : QN} (hs : St w0 F w L) (h2 : OwnN qs ∈ L) (hok : ∀ q ∈ qs, okN q) (hq : q ∈ qs) : Sl dId All w q.2.1.1.1 q.2.1.1.2.1 q.2.1.1.2.2 q.2.1.2 := (RowV.slF (d := dId) (oE (hs.all _ h2) hq).1 (by decide) (hok q hq).1.2).weak (fun _ _ => trivial)
theorem slRow2 {qs : List QN} {q : QN} (hs : St w0 F w L) (h2 : OwnN qs ∈ L) (hok : ∀ q ∈ qs, okN q) (hq : q ∈ qs) : Sl dStp All w q.2.2.1.1.1 q.2.2.1.1.2.1 q.2.2.1.1.2.2 q.2.2.1.2 := (RowV.slF (d := dStp) (oE (hs.all _ h2) hq).2.1 (by decide) (hok q hq).2.1.2).weak (fun _ _ => trivial)
theorem slRow3 {qs : List QN} {q : QN} (hs : St w0 F w L) (h2 : OwnN qs ∈ L) (hok : ∀ q ∈ qs, okN q) (hq : q ∈ qs) : Sl dStp All w q.2.2.2.1.1 q.2.2.2.1.2.1 q.2.2.2.1.2.2 q.2.2.2.2 := (RowV.slF (d := dStp) (oE (hs.all _ h2) hq).2.2 (by decide) (hok q hq).2.2.2).weak (fun _ _ => trivial)
end
theorem aBm {k : Nat} {N : List NM} (h : tiny k N) (x : Int) : tiny k (drL N x) := by
  unfold drL
  split
  · obtain ⟨p, hp⟩ : ∃ p, p = (x - 1).toNat := ⟨_, rfl⟩
    rw [← hp]
    refine ⟨?_, fun z hz => ?_⟩
    · unfold gK rQ
      rw [List.length_take, List.length_mapIdx]
      have := h.1
      omega
    · obtain ⟨i, hi⟩ := List.mem_iff_getElem?.1 hz
      obtain ⟨y, hy, rfl⟩ := gQ hi
      obtain ⟨h1, h2, h3⟩ := h.2 y (List.mem_of_getElem? hy)
      unfold offN
      split
      · exact ⟨Nat.zero_le _, Nat.zero_le _, Nat.zero_le _⟩
      · refine ⟨h1, ?_, ?_⟩
        · show (cL y.2.2.1 _).length ≤ _
          exact Nat.le_trans (by unfold cL; exact List.length_filter_le _ _) h2
        · show (cL y.2.2.2 _).length ≤ _
          exact Nat.le_trans (by unfold cL; exact List.length_filter_le _ _) h3
  · exact ⟨Nat.zero_le _, fun z hz => by cases hz⟩
attribute [local irreducible] Hold J JL JD JX JXat OpR OpG Ret RetV Is Blk Row
set_option maxRecDepth 100000
set_option maxHeartbeats 2000000
end Go.Eng
end
section
namespace Go.Eng
open Go.Proofs
set_option linter.unusedSimpArgs false
set_option linter.unusedVariables false
def atX (p i : Nat) (r : RNd) : RNd := if i = p then r00 else r
def atY (p i : Nat) (y : NM) : NM := if i = p then n0 else y
theorem at_rel {R : Nat → Prop} {w : World} {p i : Nat} {r : RNd} {y : NM} (h : mNode.rel R w r y) : mNode.rel R w (atX p i r) (atY p i y) := by
  unfold atX atY
  by_cases e : i = p
  · rw [if_pos e, if_pos e]; exact rel_r00 R w
  · rw [if_neg e, if_neg e]; exact h
theorem off_at (p i : Nat) (y : NM) : offN p i y = ((atY p i y).1, (atY p i y).2.1, cL (atY p i y).2.2.1 ((p : Int) + 1), cL (atY p i y).2.2.2 ((p : Int) + 1)) := by
  unfold offN atY
  by_cases e : i = p
  · rw [if_pos e, if_pos e]; rfl
  · rw [if_neg e, if_neg e]
abbrev ZD := RNd × QN
def dropZ (rs : List RNd) (N : List NM) (p i : Nat) (z : ZD) : Prop := ∃ r y, rs[i]? = some r ∧ N[i]? = some y ∧ okN z.2 ∧ z.1 = ((atX p i r).1, (atX p i r).2.1, z.2.2.2.1.1, z.2.2.2.2.1) ∧ z.2.2.2.1.2 = cL (atY p i y).2.2.1 ((p : Int) + 1) ∧ z.2.2.2.2.2 = cL (atY p i y).2.2.2 ((p : Int) + 1)
theorem nH {w0 w : World} {F : Nat → Prop} {L : List HP} {rs : List RNd} {N : List NM} {p : Nat} {zs : List ZD} (hs : St w0 F w L) (h2 : OwnN (zs.map Prod.snd) ∈ L) (hm : MeanV mNode All w rs N) (hl : zs.length = N.length) (hz : ∀ (i : Nat) (z : ZD), zs[i]? = some z → dropZ rs N p i z) : MeanV mNode All w (zs.map Prod.fst) (N.mapIdx (offN p)) := by
  have hok : ∀ q ∈ zs.map Prod.snd, okN q := fun q hq => by
    obtain ⟨z, hz1, rfl⟩ := List.mem_map.1 hq
    obtain ⟨i, hi⟩ := List.mem_iff_getElem?.1 hz1
    obtain ⟨_, _, _, _, ho, _⟩ := hz i z hi
    exact ho
  refine ⟨by rw [List.length_map, List.length_mapIdx, hl], fun i r' x hr hx => ?_⟩
  rw [List.getElem?_map] at hr
  rw [List.getElem?_mapIdx] at hx
  cases hzi : zs[i]? with
  | none => rw [hzi] at hr; cases hr
  | some z =>
    obtain ⟨r, y, h1, h3, ho, e1, e2, e3⟩ := hz i z hzi
    rw [hzi] at hr
    rw [h3] at hx
    cases hr; cases hx
    obtain ⟨f1, f2, _, _⟩ := fQ (at_rel (p := p) (i := i) (hm.2 i r y h1 h3))
    have hq : z.2 ∈ zs.map Prod.snd := List.mem_map_of_mem (List.mem_of_getElem? hzi)
    rw [e1, off_at, ← e2, ← e3]
    exact ⟨f1, f2, slRow2 hs h2 hok hq, slRow3 hs h2 hok hq⟩
theorem yE {l : List NM} {j : Nat} {y : NM} (hy : l[j]? = some y) : (y.1 = true → gI l (j + 1) = j + 1) ∧ (y.1 = false → gI l (j + 1) = gI l j) := by
  constructor
  · intro h
    conv => lhs; unfold gI
    rw [cK hy, if_pos h]
  · intro h
    conv => lhs; unfold gI
    rw [cK hy, if_neg (by rw [h]; decide)]
theorem sE {N : List NM} {x : Int} (h : isM N x = false) : drC N x = 2 := by unfold drC; rw [h]; rfl
attribute [local irreducible] Hold J JL JD JX JXat OpR OpG Ret RetV Is Blk Row
set_option maxRecDepth 100000
set_option maxHeartbeats 2000000
theorem uH (w : World) (a : Option Addr) (n c : Nat) (N : List NM) (X0 : Int) (h : Sl eD All w a n c N) (hn : n ≤ 900000) (hz : szN N) (gN : GR N) (hx0 : inK .i64 X0) :
    Ret Tryz.prog 39 #[.slice a n c, .int .i64 X0] w fun v w' => ∃ (a' : Option Addr) (m c' : Nat), v = .tuple #[.slice a' m c', .int .i64 (drC N X0)] ∧ m ≤ n ∧ Ext w w' ∧ Sl eD All w' a' m c' (drL N X0) := by
  refine bI (l := [_, _]) Tryz.func39 rfl Tryz.ntmps39 (by simp) ?_
  have hs := St.init w
  have hl := h.len
  have hNo := qL h
  obtain ⟨rs, hr, hm⟩ := Sl.raw (D := gD) h
  have hlr := hr.len
  cases hi : isM N X0 with
  | false =>
    have e1 : drC N X0 = 2 := sE hi
    have e2 : drL N X0 = [] := by unfold drL; rw [e1]; rfl
    rw [e1, e2]
    repeat' (first | ((apply aL 56; refine JL_o (by exact aA en56 rfl (dT _ a n c N X0 (h.st hs) hx0)) rfl rfl ?_; rintro _ _ ⟨rfl, hE⟩; rw [hi]; have hs := hs.ext hE; (try simp only [zcc] at hs))) | (apply aH) | ((apply aC); exact zop; first | (exact rfl; exact rfl) | exact rfl) | (apply aQ) | (apply aB) | (apply bK; (refine cY rfl gb rfl ?_)) | (apply aG; refine bB rfl gb ?_))
    refine aM Tryz.func39 rfl (.tmp rfl (.tmp rfl .nil)) ⟨none, 0, 0, rfl, Nat.zero_le _, hs.frm.ext, fE _ _ _⟩
  | true =>
  by_cases hx1 : X0 = 1
  · have e1 : drC N X0 = 2 := by unfold drC; rw [hi, decide_eq_true hx1]; rfl
    have e2 : drL N X0 = [] := by unfold drL; rw [e1]; rfl
    rw [e1, e2]
    repeat' (first | ((apply aL 56; refine JL_o (by exact aA en56 rfl (dT _ a n c N X0 (h.st hs) hx0)) rfl rfl ?_; rintro _ _ ⟨rfl, hE⟩; rw [hi]; have hs := hs.ext hE; (try simp only [zcc] at hs))) | (apply aH) | ((first | (apply aC) | (apply bA; exact rfl; exact gb)); exact zop; first | (exact rfl; exact rfl) | exact rfl) | (apply aQ) | (apply aB) | (apply aG; refine aS rfl ob ?_))
    refine aM Tryz.func39 rfl (.tmp rfl (.tmp rfl .nil)) ⟨none, 0, 0, rfl, Nat.zero_le _, hs.frm.ext, fE _ _ _⟩
  obtain ⟨p, x, rfl, hxp, hxu⟩ := isM_true.1 hi
  have hpl := (List.getElem?_eq_some_iff.1 hxp).1
  have hp0 : p ≠ 0 := fun e => hx1 (by rw [e]; rfl)
  have e1 : drC N ((p : Int) + 1) = 0 := by unfold drC; rw [hi, decide_eq_false hx1]; rfl
  have e2 : drL N ((p : Int) + 1) = gK N p := by unfold drL; rw [if_pos e1, show ((p : Int) + 1 - 1).toNat = p by omega]
  rw [e1, e2]
  obtain ⟨b0, o0, rfl⟩ := hr.sl.addr (by omega)
  have hs : St w NoF w [] := hs
  repeat' (first | ((apply aL 56; refine JL_o (by exact aA en56 rfl (dT _ (some ⟨b0, o0, none⟩) n c N ((p : Int) + 1) (h.st hs) hx0)) rfl rfl ?_; rintro _ _ ⟨rfl, hE⟩; rw [hi]; have hs := hs.ext hE; (try simp only [zcc] at hs))) | (apply aH) | ((first | (apply aC) | (apply bA; exact rfl; exact gb)); exact zop; first | (exact rfl; exact rfl) | exact rfl) | (apply aQ) | (apply aB) | (apply aN) | (apply aV) | (apply aG; refine aZ rfl ob ?_))
  have hs := hs.nilN.nilRow 79 4
  refine bT (α := Nat × List ZD × Option Addr × Nat) [(1, _), (17, _), (18, _)] (fun g => [(6, .slice g.2.2.1 g.1 g.2.2.2), (19, .int .i64 g.1)]) (fun g w' => St w NoF w' [TabN g.2.2.1 g.1 g.2.2.2 (g.2.1.map Prod.fst), OwnN (g.2.1.map Prod.snd)] ∧ g.1 ≤ n ∧ g.2.1.length = g.1 ∧ ∀ (i : Nat) (z : ZD), g.2.1[i]? = some z → dropZ rs N p i z) (fun g => n - g.1) (0, [], none, 0) ⟨hs, Nat.zero_le _, rfl, fun i z hz => by simp at hz⟩ zss ?_
  rintro ⟨k, zs, a5, c5⟩ w2 ⟨hs1, hk, hzl, hzz⟩ ih
  dsimp only at hs1 hk hzl hzz ih ⊢
  by_cases hlt : k < n
  · have hs : St w NoF w2 [_, _] := hs1
    have hy : N[k]? = some (N[k]'(by omega)) := List.getElem?_eq_getElem (by omega)
    obtain ⟨y, hyd⟩ : ∃ y, y = N[k]'(by omega) := ⟨_, rfl⟩
    rw [← hyd] at hy
    obtain ⟨r, hrx, hrel⟩ := hm.get hy
    have hok2 : okNM (atY p k y) := by
      unfold atY
      split
      · exact ⟨(fun i hi => by cases hi), (fun i hi => by cases hi), (fun i hi => by cases hi)⟩
      · exact hNo y (List.mem_of_getElem? hy)
    have hsz2 : (atY p k y).2.2.1.length ≤ 1000000 ∧ (atY p k y).2.2.2.length ≤ 1000000 := by
      unfold atY
      split
      · exact ⟨Nat.zero_le _, Nat.zero_le _⟩
      · exact (hz y (List.mem_of_getElem? hy)).2
    obtain ⟨f1, f2, f3, f4⟩ := fQ (at_rel (p := p) (i := k) hrel)
    obtain ⟨r2, hr2⟩ : ∃ r2, r2 = atX p k r := ⟨_, rfl⟩
    obtain ⟨y2, hy2⟩ : ∃ y2, y2 = atY p k y := ⟨_, rfl⟩
    rw [← hr2, ← hy2] at f1 f2 f3 f4
    rw [← hy2] at hok2 hsz2
    obtain ⟨z1, z2⟩ := hsz2
    have d3 := f3.len
    have d4 := f4.len
    by_cases e : k = p
    · have hrz : r2 = r00 := by rw [hr2]; unfold atX; rw [if_pos e]
      subst hrz
      have k1 : Sl dStp All w none 0 0 y2.2.2.1 := f3
      have k2 : Sl dStp All w none 0 0 y2.2.2.2 := f4
      repeat' (first | ((apply ax_c; apply gG 110; exact rfl; (intro W X hN hs; exact aA en110 rfl (xF _ none 0 0 y2.2.2.1 ((p : Int) + 1) (k1.st hs) (by omega))); (rintro _ _ _ _ ⟨a6, c6, rfl, hf⟩; first | exact hE | exact Fresh.ext hf); rintro W X _ _ hN hs ⟨a6, c6, rfl, hf⟩; have hs := hs.fresh hf; clear k1; (try simp only [zcc] at hs); refine JX.at hs ?_)) | ((apply ax_c; apply gG 110; exact rfl; (intro W X hN hs; exact aA en110 rfl (xF _ none 0 0 y2.2.2.2 ((p : Int) + 1) (k2.st hs) (by omega))); (rintro _ _ _ _ ⟨a7, c7, rfl, hf⟩; first | exact hE | exact Fresh.ext hf); rintro W X _ _ hN hs ⟨a7, c7, rfl, hf⟩; have hs := hs.fresh hf; (try simp only [zcc] at hs); refine JX.at hs ?_)) | ((apply aF (t := 42); refine JL_o (by apply bW; exact cF (xs := encL cNd (zs.map Prod.fst)) (news := cNd (false, z0, (a6, (cL y2.2.2.1 ((p : Int) + 1)).length, c6), (a7, (cL y2.2.2.2 ((p : Int) + 1)).length, c7))) hs rfl rfl (lZ (r := (false, z0, (a6, (cL y2.2.2.1 ((p : Int) + 1)).length, c6), (a7, (cL y2.2.2.2 ((p : Int) + 1)).length, c7))) (hs.blk (b := b41))) cJ rfl (by omega) (by unfold maxLen; omega)) rfl rfl ?_; rintro _ _ ⟨a8, c8, rfl, hs, hF, hnil⟩)) | (apply aH) | ((first | (apply aC) | (apply JX_f; exact rfl; intro W X hs)); (first | (apply aT; exact aO (hr.st hs) hrx rfl rfl aI) | exact zop); first | (exact rfl; exact rfl) | exact rfl) | (apply aQ) | (apply aB) | (apply aN) | (apply aW) | (apply aV) | (apply aF (t := 8); refine JL_o (by apply aR; exact aJ hs) rfl rfl ?_; rintro _ _ ⟨b8, rfl, hb8, hs, hE⟩) | (apply aF (t := 41); refine JL_o (by apply bJ; exact bF hs rfl (by omega) rfl) rfl rfl ?_; rintro _ _ ⟨b41, rfl, hb41, hs, hE⟩) | (apply aU; refine JL_u (by apply aP; exact aK hs rfl rfl rfl) rfl ?_; rintro _ _ ⟨hs, hF⟩) | (apply aG; refine aS rfl ob ?_) | (apply bV; (refine bQ (id := 9) [0, 1, 0, 7, 0, 16, 0, 127, 63, 511, 1023, 2047] [(0, 0), (1, 0), (2, 0), (4, 0), (5, 0), (6, 0), (3, 1), (8, 0), (7, 1)] [9, 10, 11] hs cQ (by kernel_rfl) (by kernel_rfl) (by kernel_rfl) (by kernel_rfl) (by kernel_rfl) ?_)) | (refine bU (fun W hs => ?_)) | (apply eS; case' hos => (simp only [List.map_cons, List.map_nil, List.getElem?_toArray, List.getElem?_cons_succ, List.getElem?_cons_zero]; repeat' (first | exact fS | apply eR))))
      rw [kS (zs.map Prod.fst) (false, z0, (a6, (cL y2.2.2.1 ((p : Int) + 1)).length, c6), (a7, (cL y2.2.2.2 ((p : Int) + 1)).length, c7))] at hs
      have hs := St.packN (q := (false, ((none, 0, 0), []), ((a6, (cL y2.2.2.1 ((p : Int) + 1)).length, c6), cL y2.2.2.1 ((p : Int) + 1)), ((a7, (cL y2.2.2.2 ((p : Int) + 1)).length, c7), cL y2.2.2.2 ((p : Int) + 1)))) (L := [OwnN (zs.map Prod.snd), _]) (St.nilRow (L := [_, _, _, _]) (hs.sel [2, 1, 5, 4] (by decide)) 29 1)
      have hs := St.pushN hs
      obtain ⟨z, hz0⟩ : ∃ z : ZD, z = ((false, z0, (a6, (cL y2.2.2.1 ((p : Int) + 1)).length, c6), (a7, (cL y2.2.2.2 ((p : Int) + 1)).length, c7)), (false, ((none, 0, 0), []), ((a6, (cL y2.2.2.1 ((p : Int) + 1)).length, c6), cL y2.2.2.1 ((p : Int) + 1)), ((a7, (cL y2.2.2.2 ((p : Int) + 1)).length, c7), cL y2.2.2.2 ((p : Int) + 1)))) := ⟨_, rfl⟩
      have hd : dropZ rs N p k z := ⟨r, y, hrx, hy, by rw [hz0]; exact ⟨⟨rfl, fun i hi => by cases hi⟩, ⟨rfl, fun s hs => hok2.2.1 s (List.mem_filter.1 hs).1⟩, ⟨rfl, fun s hs => hok2.2.2 s (List.mem_filter.1 hs).1⟩⟩, by rw [hz0, ← hr2], by rw [hz0, ← hy2], by rw [hz0, ← hy2]⟩
      have hz1 : (zs ++ [z]).map Prod.fst = zs.map Prod.fst ++ [z.1] := by rw [List.map_append]; rfl
      have hz2 : (zs ++ [z]).map Prod.snd = zs.map Prod.snd ++ [z.2] := by rw [List.map_append]; rfl
      refine ih (k + 1, zs ++ [z], a8, c8) _ _ ⟨by dsimp only; rw [hz1, hz2, hz0]; exact hs.sel [1, 0] (by decide), hlt, by dsimp only; rw [List.length_append, hzl]; rfl, fun i z' hz' => ?_⟩ (by dsimp only; omega) zss
      by_cases ei : i < k
      · rw [List.getElem?_append_left (by omega)] at hz'
        exact hzz i z' hz'
      · have hik : i = k := by
          have := (List.getElem?_eq_some_iff.1 hz').1
          rw [List.length_append, hzl] at this
          have h1 : [z].length = 1 := rfl
          omega
        rw [List.getElem?_append_right (by omega), hik, hzl, Nat.sub_self] at hz'
        cases hz'
        rw [hik]; exact hd
    · have hrz : r2 = r := by rw [hr2]; unfold atX; rw [if_neg e]
      subst hrz
      repeat' (first | ((apply ax_c; apply gG 110; exact rfl; (intro W X hN hs; exact aA en110 rfl (xF _ r2.2.2.1.1 r2.2.2.1.2.1 r2.2.2.1.2.2 y2.2.2.1 ((p : Int) + 1) (f3.st hs) (by omega))); (rintro _ _ _ _ ⟨a6, c6, rfl, hf⟩; first | exact hE | exact Fresh.ext hf); rintro W X _ _ hN hs ⟨a6, c6, rfl, hf⟩; have hs := hs.fresh hf; (try simp only [zcc] at hs); refine JX.at hs ?_)) | ((apply ax_c; apply gG 110; exact rfl; (intro W X hN hs; exact aA en110 rfl (xF _ r2.2.2.2.1 r2.2.2.2.2.1 r2.2.2.2.2.2 y2.2.2.2 ((p : Int) + 1) (f4.st hs) (by omega))); (rintro _ _ _ _ ⟨a7, c7, rfl, hf⟩; first | exact hE | exact Fresh.ext hf); rintro W X _ _ hN hs ⟨a7, c7, rfl, hf⟩; have hs := hs.fresh hf; (try simp only [zcc] at hs); refine JX.at hs ?_)) | ((apply aF (t := 42); refine JL_o (by apply bW; exact cF (xs := encL cNd (zs.map Prod.fst)) (news := cNd (r2.1, r2.2.1, (a6, (cL y2.2.2.1 ((p : Int) + 1)).length, c6), (a7, (cL y2.2.2.2 ((p : Int) + 1)).length, c7))) hs rfl rfl (lZ (r := (r2.1, r2.2.1, (a6, (cL y2.2.2.1 ((p : Int) + 1)).length, c6), (a7, (cL y2.2.2.2 ((p : Int) + 1)).length, c7))) (hs.blk (b := b41))) cJ rfl (by omega) (by unfold maxLen; omega)) rfl rfl ?_; rintro _ _ ⟨a8, c8, rfl, hs, hF, hnil⟩)) | (apply aH) | ((first | (apply aC) | (apply JX_f; exact rfl; intro W X hs)); (first | (apply aT; exact aO (hr.st hs) hrx rfl rfl aI) | exact zop); first | (exact rfl; exact rfl) | exact rfl) | (apply aQ) | (apply aB) | (apply aN) | (apply aW) | (apply aV) | (apply aF (t := 8); refine JL_o (by apply aR; exact aJ hs) rfl rfl ?_; rintro _ _ ⟨b8, rfl, hb8, hs, hE⟩) | (apply aF (t := 41); refine JL_o (by apply bJ; exact bF hs rfl (by omega) rfl) rfl rfl ?_; rintro _ _ ⟨b41, rfl, hb41, hs, hE⟩) | (apply aU; refine JL_u (by apply aP; exact aK hs rfl rfl rfl) rfl ?_; rintro _ _ ⟨hs, hF⟩) | (apply aG; first | refine aS rfl ob ?_ | refine aZ rfl ob ?_) | (apply bV; (refine bQ (id := 9) [0, 1, 0, 7, 0, 16, 0, 127, 63, 511, 1023, 2047] [(0, 0), (1, 0), (2, 0), (4, 0), (5, 0), (6, 0), (3, 1), (8, 0), (7, 1)] [9, 10, 11] hs cQ (by kernel_rfl) (by kernel_rfl) (by kernel_rfl) (by kernel_rfl) (by kernel_rfl) ?_)) | (refine bU (fun W hs => ?_)) | (apply eS; case' hos => (simp only [List.map_cons, List.map_nil, List.getElem?_toArray, List.getElem?_cons_succ, List.getElem?_cons_zero]; repeat' (first | exact fS | apply eR))))
      rw [kS (zs.map Prod.fst) (r2.1, r2.2.1, (a6, (cL y2.2.2.1 ((p : Int) + 1)).length, c6), (a7, (cL y2.2.2.2 ((p : Int) + 1)).length, c7))] at hs
      have hs := St.packN (q := (r2.1, ((none, 0, 0), []), ((a6, (cL y2.2.2.1 ((p : Int) + 1)).length, c6), cL y2.2.2.1 ((p : Int) + 1)), ((a7, (cL y2.2.2.2 ((p : Int) + 1)).length, c7), cL y2.2.2.2 ((p : Int) + 1)))) (L := [OwnN (zs.map Prod.snd), _]) (St.nilRow (L := [_, _, _, _]) (hs.sel [2, 1, 5, 4] (by decide)) 29 1)
      have hs := St.pushN hs
      obtain ⟨z, hz0⟩ : ∃ z : ZD, z = ((r2.1, r2.2.1, (a6, (cL y2.2.2.1 ((p : Int) + 1)).length, c6), (a7, (cL y2.2.2.2 ((p : Int) + 1)).length, c7)), (r2.1, ((none, 0, 0), []), ((a6, (cL y2.2.2.1 ((p : Int) + 1)).length, c6), cL y2.2.2.1 ((p : Int) + 1)), ((a7, (cL y2.2.2.2 ((p : Int) + 1)).length, c7), cL y2.2.2.2 ((p : Int) + 1)))) := ⟨_, rfl⟩
      have hd : dropZ rs N p k z := ⟨r2, y, hrx, hy, by rw [hz0]; exact ⟨⟨rfl, fun i hi => by cases hi⟩, ⟨rfl, fun s hs => hok2.2.1 s (List.mem_filter.1 hs).1⟩, ⟨rfl, fun s hs => hok2.2.2 s (List.mem_filter.1 hs).1⟩⟩, by rw [hz0, ← hr2], by rw [hz0, ← hy2], by rw [hz0, ← hy2]⟩
      have hz1 : (zs ++ [z]).map Prod.fst = zs.map Prod.fst ++ [z.1] := by rw [List.map_append]; rfl
      have hz2 : (zs ++ [z]).map Prod.snd = zs.map Prod.snd ++ [z.2] := by rw [List.map_append]; rfl
      refine ih (k + 1, zs ++ [z], a8, c8) _ _ ⟨by dsimp only; rw [hz1, hz2, hz0]; exact hs.sel [1, 0] (by decide), hlt, by dsimp only; rw [List.length_append, hzl]; rfl, fun i z' hz' => ?_⟩ (by dsimp only; omega) zss
      by_cases ei : i < k
      · rw [List.getElem?_append_left (by omega)] at hz'
        exact hzz i z' hz'
      · have hik : i = k := by
          have := (List.getElem?_eq_some_iff.1 hz').1
          rw [List.length_append, hzl] at this
          have h1 : [z].length = 1 := rfl
          omega
        rw [List.getElem?_append_right (by omega), hik, hzl, Nat.sub_self] at hz'
        cases hz'
        rw [hik]; exact hd
  · have hkn : k = n := by omega
    subst hkn
    have hM := nH (p := p) hs1 zmm (hm.st hs1) (by omega) hzz
    clear ih
    repeat' (first | (apply aH) | ((apply aC); exact zop; first | (exact rfl; exact rfl) | exact rfl) | (apply aQ) | (apply aB) | (apply aN) | (apply bG; refine bP rfl ?_) | (apply aG; refine aZ rfl ob ?_))
    have hrd := slRN (rs := zs.map Prod.fst) hs1 zmm
    have hc5 : k ≤ c5 := hrd.le
    obtain ⟨x0, hx0', hu0, _⟩ := gN.first
    obtain ⟨M, hMd⟩ : ∃ M, M = N.mapIdx (offN p) := ⟨_, rfl⟩
    rw [← hMd] at hM
    have hMl : M.length = k := by rw [hMd, List.length_mapIdx]; exact hl
    have hM0 : ∃ y0, M[0]? = some y0 ∧ y0.1 = true := by
      rw [hMd, List.getElem?_mapIdx, hx0']
      refine ⟨_, rfl, ?_⟩
      unfold offN
      rw [if_neg (fun e => hp0 e.symm)]; exact hu0
    have hdN : gK N p = M.take (gI M k) := by
      unfold gK rQ
      rw [← hMd, hMl]
    rw [hdN]
    have hs : St w NoF w2 [_, _] := hs1
    refine bT (α := Nat) [] (fun m => [(6, .slice a5 m c5)]) (fun m w' => St w NoF w' [TabN a5 k c5 (zs.map Prod.fst), OwnN (zs.map Prod.snd)] ∧ 1 ≤ m ∧ m ≤ k ∧ gI M m = gI M k) (fun m => m) k ⟨hs, by omega, Nat.le_refl _, rfl⟩ zss ?_
    rintro m w3 ⟨hs1, hm1, hmk, hml⟩ ih
    have hs : St w NoF w3 [_, _] := hs1
    have hM := nH (p := p) hs zmm (hm.st hs) (by omega) hzz
    rw [← hMd] at hM
    have hy : M[m - 1]? = some (M[m - 1]'(by omega)) := List.getElem?_eq_getElem (by omega)
    obtain ⟨y, hyd⟩ : ∃ y, y = M[m - 1]'(by omega) := ⟨_, rfl⟩
    rw [← hyd] at hy
    obtain ⟨r, hrx, hrel⟩ := hM.get hy
    obtain ⟨f1, _⟩ := fQ hrel
    have hst := yE hy
    rw [show m - 1 + 1 = m by omega] at hst
    have hrx2 : (zs.map Prod.fst)[((m : Int) - 1).toNat]? = some r := by rw [show ((m : Int) - 1).toNat = m - 1 by omega]; exact hrx
    obtain ⟨b5, o5, rfl⟩ := (hs.row a5 k c5).some (by omega)
    have hs : St w NoF w3 [_, _] := hs1
    obtain ⟨u, ra⟩ := r
    have f1 : u = y.1 := f1
    cases u with
    | true =>
      have hL := hst.1 f1.symm
      repeat' (first | (apply aH) | ((apply aC); (first | (apply aT; exact aX (i := ((m : Int) - 1).toNat) (j := 0) (slRN (rs := zs.map Prod.fst) hs zmm) hrx2 rfl rfl rfl aI) | exact zop); first | (exact rfl; exact rfl) | exact rfl) | (apply aQ) | (apply aB) | (apply bG; refine bP rfl ?_) | (apply aG; refine bD rfl gb ?_))
      rw [← hml, hL]
      refine aM Tryz.func39 rfl (.tmp rfl (.tmp rfl .nil)) ⟨_, m, c5, rfl, hmk, hs.frm.ext, (slNd hs zmm (nH (p := p) hs zmm (hm.st hs) (by omega) hzz)).cut m hmk |> Sl.to (by rw [hMd])⟩
    | false =>
      have hL := hst.2 f1.symm
      have hm2 : 2 ≤ m := by
        refine Decidable.by_contra fun hc => ?_
        obtain ⟨y0, hy0, hu0⟩ := hM0
        rw [show m - 1 = 0 by omega, hy0] at hy
        cases hy
        rw [hu0] at f1; cases f1
      repeat' (first | (apply aH) | ((apply aC); (first | (apply aT; exact aX (i := ((m : Int) - 1).toNat) (j := 0) (slRN (rs := zs.map Prod.fst) hs zmm) hrx2 rfl rfl rfl aI) | (apply dA; exact dO (kl := .i64) (kh := .i64) (km := .i64) (a' := some ⟨b5, o5, none⟩) (l := 0) (h := (m : Int) - 1) (m := (c5 : Int)) rfl (.inl ⟨rfl, rfl⟩) (.inr ⟨_, rfl, rfl⟩) (.inl ⟨rfl, rfl⟩) (by omega) (by omega) (by omega) (by omega) (by split; rfl; exact zB _) (by rw [Int.sub_zero, Int.sub_zero, Int.toNat_natCast, show ((m : Int) - 1).toNat = m - 1 by omega]; exact aI)) | exact zop); first | (exact rfl; exact rfl) | exact rfl) | (apply aQ) | (apply aB) | (apply aN) | (apply aW) | (apply aV) | (apply aG; refine bB rfl gb ?_))
      refine ih (m - 1) _ _ ⟨hs, by omega, by omega, by rw [← hL]; exact hml⟩ (by omega) zss
end Go.Eng
end
section
namespace Go.Eng
open Go.Proofs
set_option linter.unusedSimpArgs false
set_option linter.unusedVariables false
theorem aBf (xs : List Int) (k : Nat) (x v : Int) (hx : xs[k]? = some x) : bR (encL cId xs) (k * 1) [.int .u64 v] = encL cId (xs.set k v) := (iS (d := dId) xs k v (List.getElem?_eq_some_iff.1 hx).1).symm
theorem uB (xs : List ST) (k : Nat) (x : ST) (v : Int) (hx : xs[k]? = some x) : bR (encL cT xs) (k * 2 + 1) [.int .i64 v] = encL cT (xs.set k (x.1, v)) := kW (d := dStp) xs k 1 x (x.1, v) _ hx (by show 1 + 1 ≤ 2; omega) rfl
theorem aBh (rs : List REnt) (k : Nat) (r : REnt) (v : Int) (hr : rs[k]? = some r) : bR (encL bS rs) (k * 3 + 2) [.int .i64 v] = encL bS (rs.set k (r.1, r.2.1, v)) := kW (d := eV) rs k 2 r (r.1, r.2.1, v) _ hr (by show 2 + 1 ≤ 3; omega) rfl
abbrev lenN (q : QN) : Prop := q.2.1.1.2.1 = q.2.1.2.length ∧ q.2.2.1.1.2.1 = q.2.2.1.2.length ∧ q.2.2.2.1.2.1 = q.2.2.2.2.length
attribute [local irreducible] Hold J JL JD JX JXat OpR OpG Ret RetV Is Blk Row
set_option maxRecDepth 100000
set_option maxHeartbeats 2000000
theorem aA7 (w : World) (a a2 : Option Addr) (n c m2 c2 : Nat) (qs : List QN) (rs : List REnt) (es : List Ent) (hh : Held w [TabN a n c (qs.map rawN), OwnN qs, bZ a2 m2 c2 rs, Own rs es]) (hok : ∀ q ∈ qs, okN q) (hql : qs.length = n) (hrl : rs.length = m2) (hn : n ≤ 1000000) (hn2 : m2 ≤ 1048576) (hb : szN (qs.map fO)) :
    Ret Tryz.prog 42 #[.agg #[.slice a n c, .slice a2 m2 c2]] w fun v w' => Turn w [TabN a n c (qs.map rawN), OwnN qs, bZ a2 m2 c2 rs, Own rs es] w' [] := by
  refine bI (l := [_]) Tryz.func42 rfl Tryz.ntmps42 (by simp) ?_
  have hs := hh.st
  have hlb : ∀ q ∈ qs, q.2.1.1.2.1 ≤ 1000000 ∧ q.2.2.1.1.2.1 ≤ 1000000 ∧ q.2.2.2.1.2.1 ≤ 1000000 := fun q hq => by
    obtain ⟨⟨h1, _⟩, ⟨h2, _⟩, h3, _⟩ := hok q hq
    rw [h1, h2, h3]
    exact hb _ (List.mem_map_of_mem (f := fO) hq)
  obtain ⟨F0, hF0⟩ : ∃ F0, F0 = (Star [TabN a n c (qs.map rawN), OwnN qs, bZ a2 m2 c2 rs, Own rs es]).foot := ⟨_, rfl⟩
  have hend : ∀ w' M, St w F0 w' M → Turn w [TabN a n c (qs.map rawN), OwnN qs, bZ a2 m2 c2 rs, Own rs es] w' [] := fun w' M hs => by rw [hF0] at hs; exact St.turned (A' := []) (M := M) hs
  rw [← hF0] at hs
  repeat' (first | (apply aH) | ((apply aC); exact zop; first | (exact rfl; exact rfl) | exact rfl) | (apply aQ) | (apply aB) | (apply aN) | (apply aF (t := 1); refine JL_o (by apply bN; exact bC hs rfl) rfl rfl ?_; rintro _ _ ⟨b1, rfl, hb1, hs, hE⟩))
  refine bT (α := Nat × List QN) [(1, _), (9, _)] (fun g => [(10, .int .i64 g.1)]) (fun g w' => St w F0 w' [OwnN g.2, TabN a n c (qs.map rawN), bZ a2 m2 c2 rs, Own rs es, Blk b1 (.cells #[.slice a n c, .slice a2 m2 c2] 57 (0, 0))] ∧ g.1 ≤ n ∧ g.2.map rawN = qs.map rawN ∧ (∀ q ∈ g.2, lenN q)) (fun g => n - g.1) (0, qs) ⟨hs.sel [2, 1, 3, 4, 0] (by decide), Nat.zero_le _, rfl, fun q hq => ⟨(hok q hq).1.1, (hok q hq).2.1.1, (hok q hq).2.2.1⟩⟩ zss ?_
  rintro ⟨k, ps⟩ w2 ⟨hs1, hk, hpr, hpl⟩ ih
  dsimp only at hs1 hk hpr hpl ih ⊢
  have hpn : ps.length = n := by have := congrArg List.length hpr; rw [List.length_map, List.length_map] at this; omega
  by_cases hlt : k < n
  · obtain ⟨b, o, rfl⟩ := (hs1.row a n c).some (by omega)
    have hq : ps[k]? = some (ps[k]'(by omega)) := List.getElem?_eq_getElem (by omega)
    obtain ⟨q, hqd⟩ : ∃ q, q = ps[k]'(by omega) := ⟨_, rfl⟩
    rw [← hqd] at hq
    have hsp : ps.take k ++ q :: ps.drop (k + 1) = ps := by rw [hqd, ← List.drop_eq_getElem_cons (by omega), List.take_append_drop]
    have hrr : (qs.map rawN)[k]? = some (rawN q) := by rw [← hpr, List.getElem?_map, hq]; rfl
    obtain ⟨e1, e2, e3⟩ := hpl q (List.mem_of_getElem? hq)
    have hbq : q.2.1.1.2.1 ≤ 1000000 ∧ q.2.2.1.1.2.1 ≤ 1000000 ∧ q.2.2.2.1.2.1 ≤ 1000000 := by
      have hm := List.mem_of_getElem? hrr
      obtain ⟨q', hq', he⟩ := List.mem_map.1 hm
      have h1 := hlb q' hq'
      have i1 : q'.2.1.1 = q.2.1.1 := congrArg (fun r : RNd => r.2.1) he
      have i2 : q'.2.2.1.1 = q.2.2.1.1 := congrArg (fun r : RNd => r.2.2.1) he
      have i3 : q'.2.2.2.1 = q.2.2.2.1 := congrArg (fun r : RNd => r.2.2.2) he
      rw [i1, i2, i3] at h1
      exact h1
    have hs := hs1
    rw [← hsp] at hs
    have hs := (hs.outN).unpackN
    obtain ⟨u, ⟨⟨x1, l1, c1⟩, xs⟩, ⟨⟨x2, l2, d2⟩, ys⟩, ⟨⟨x3, l3, d3⟩, zs⟩⟩ := q
    dsimp only at e1 e2 e3 hbq hrr
    have hrr : (qs.map rawN)[k]? = some (u, (x1, l1, c1), (x2, l2, d2), (x3, l3, d3)) := hrr
    have hc1 : (encL cNd (qs.map rawN))[k * 4 + 1]? = some (.slice x1 l1 c1) := dK (d := dRNd) (qs.map rawN) k 1 _ hrr (by decide)
    have hc2 : (encL cNd (qs.map rawN))[k * 4 + 2]? = some (.slice x2 l2 d2) := dK (d := dRNd) (qs.map rawN) k 2 _ hrr (by decide)
    have hc3 : (encL cNd (qs.map rawN))[k * 4 + 3]? = some (.slice x3 l3 d3) := dK (d := dRNd) (qs.map rawN) k 3 _ hrr (by decide)
    obtain ⟨g1, g2, g3⟩ := hbq
    have hs : St w F0 w2 [RowU x1 l1 c1 xs, RowT x2 l2 d2 ys, RowT x3 l3 d3 zs, OwnN (ps.take k ++ ps.drop (k + 1)), TabN (some ⟨b, o, none⟩) n c (qs.map rawN), bZ a2 m2 c2 rs, Own rs es, Blk b1 (.cells #[.slice (some ⟨b, o, none⟩) n c, .slice a2 m2 c2] 57 (0, 0))] := hs
    repeat' (first | (apply aH) | ((apply aC); (first | (apply aT; exact dG (b := b) (o := o) (off := k * 4 + 1) (n := n) (c := c) hs rfl hc1 aI) | exact zop); first | (exact rfl; exact rfl) | exact rfl) | (apply aQ) | (apply aB) | (apply aN) | (apply aV) | (apply aG; refine aS rfl ob ?_))
    refine bT (α := Nat × List Int) [(1, _), (2, _), (9, _), (10, _), (19, _)] (fun g => [(20, .int .i64 g.1)]) (fun g w' => St w F0 w' [RowU x1 l1 c1 g.2, RowT x2 l2 d2 ys, RowT x3 l3 d3 zs, OwnN (ps.take k ++ ps.drop (k + 1)), TabN (some ⟨b, o, none⟩) n c (qs.map rawN), bZ a2 m2 c2 rs, Own rs es, Blk b1 (.cells #[.slice (some ⟨b, o, none⟩) n c, .slice a2 m2 c2] 57 (0, 0))] ∧ g.1 ≤ l1 ∧ g.2.length = l1) (fun g => l1 - g.1) (0, xs) ⟨hs, Nat.zero_le _, e1.symm⟩ zss ?_
    rintro ⟨j, xs'⟩ w3 ⟨hs1, hj, hyl⟩ ih2
    dsimp only at hs1 hj hyl ih2 ⊢
    by_cases hlj : j < l1
    · obtain ⟨p1, o1, rfl⟩ := (hs1.row x1 l1 c1).some (by omega)
      have hs : St w F0 w3 [_, _, _, _, _, _, _, _] := hs1
      have hy : xs'[j]? = some (xs'[j]'(by omega)) := List.getElem?_eq_getElem (by omega)
      obtain ⟨y, hyd⟩ : ∃ y, y = xs'[j]'(by omega) := ⟨_, rfl⟩
      rw [← hyd] at hy
      repeat' (first | ((apply aU; refine JL_u (by apply aP; exact cD (b := p1) (o := o1) (off := j * 1) (n := l1) (c := c1) (vs := [.int .u64 0]) hs rfl rfl rfl rfl (by simp [Value.oneCell']) (by show j * 1 + 1 ≤ l1 * 1; omega)) rfl ?_; rintro _ _ ⟨hs, hF⟩; rw [aBf xs' j y 0 hy] at hs)) | (apply aH) | ((apply aC); (first | (apply aT; exact dG (b := b) (o := o) (off := k * 4 + 1) (n := n) (c := c) hs rfl hc1 aI) | exact zop); first | (exact rfl; exact rfl) | exact rfl) | (apply aQ) | (apply aB) | (apply aN) | (apply aW) | (apply aV) | (apply aG; refine aS rfl ob ?_))
      refine ih2 (j + 1, xs'.set j 0) _ _ ⟨hs, hlj, by dsimp only; rw [List.length_set]; exact hyl⟩ (by dsimp only; omega) zss
    · have hs : St w F0 w3 [_, _, _, _, _, _, _, _] := hs1
      clear ih2
      repeat' (first | (apply aH) | ((apply aC); (first | (apply aT; exact dG (b := b) (o := o) (off := k * 4 + 2) (n := n) (c := c) hs rfl hc2 aI) | exact zop); first | (exact rfl; exact rfl) | exact rfl) | (apply aQ) | (apply aB) | (apply aN) | (apply bG; refine bP rfl ?_) | (apply aG; refine aZ rfl ob ?_))
      have hs : St w F0 _ [RowT x2 l2 d2 ys, RowU x1 l1 c1 xs', RowT x3 l3 d3 zs, OwnN (ps.take k ++ ps.drop (k + 1)), TabN (some ⟨b, o, none⟩) n c (qs.map rawN), bZ a2 m2 c2 rs, Own rs es, Blk b1 (.cells #[.slice (some ⟨b, o, none⟩) n c, .slice a2 m2 c2] 57 (0, 0))] := hs.sel [1, 0, 2, 3, 4, 5, 6, 7] (by decide)
      have hx1 := hyl
      clear hyl
      refine bT (α := Nat × List ST) [(1, _), (2, _), (9, _), (10, _), (38, _)] (fun g => [(39, .int .i64 g.1)]) (fun g w' => St w F0 w' [RowT x2 l2 d2 g.2, RowU x1 l1 c1 xs', RowT x3 l3 d3 zs, OwnN (ps.take k ++ ps.drop (k + 1)), TabN (some ⟨b, o, none⟩) n c (qs.map rawN), bZ a2 m2 c2 rs, Own rs es, Blk b1 (.cells #[.slice (some ⟨b, o, none⟩) n c, .slice a2 m2 c2] 57 (0, 0))] ∧ g.1 ≤ l2 ∧ g.2.length = l2) (fun g => l2 - g.1) (0, ys) ⟨hs, Nat.zero_le _, e2.symm⟩ zss ?_
      rintro ⟨j, ys'⟩ w4 ⟨hs1, hj, hyl⟩ ih3
      dsimp only at hs1 hj hyl ih3 ⊢
      by_cases hlj : j < l2
      · obtain ⟨p2, o2, rfl⟩ := (hs1.row x2 l2 d2).some (by omega)
        have hs : St w F0 w4 [_, _, _, _, _, _, _, _] := hs1
        have hy : ys'[j]? = some (ys'[j]'(by omega)) := List.getElem?_eq_getElem (by omega)
        obtain ⟨y, hyd⟩ : ∃ y, y = ys'[j]'(by omega) := ⟨_, rfl⟩
        rw [← hyd] at hy
        repeat' (first | ((apply aU; refine JL_u (by apply aP; exact cD (b := p2) (o := o2) (off := j * 2 + 1) (n := l2) (c := d2) (vs := [.int .i64 0]) hs rfl rfl rfl rfl (by simp [Value.oneCell']) (by show j * 2 + 1 + 1 ≤ l2 * 2; omega)) rfl ?_; rintro _ _ ⟨hs, hF⟩; rw [uB ys' j y 0 hy] at hs)) | (apply aH) | ((apply aC); (first | (apply aT; exact dG (b := b) (o := o) (off := k * 4 + 2) (n := n) (c := c) hs rfl hc2 aI) | exact zop); first | (exact rfl; exact rfl) | exact rfl) | (apply aQ) | (apply aB) | (apply aN) | (apply aW) | (apply aV) | (apply aG; refine aS rfl ob ?_))
        refine ih3 (j + 1, ys'.set j (y.1, 0)) _ _ ⟨hs, hlj, by dsimp only; rw [List.length_set]; exact hyl⟩ (by dsimp only; omega) zss
      · have hs : St w F0 w4 [_, _, _, _, _, _, _, _] := hs1
        clear ih3
        repeat' (first | (apply aH) | ((apply aC); (first | (apply aT; exact dG (b := b) (o := o) (off := k * 4 + 3) (n := n) (c := c) hs rfl hc3 aI) | exact zop); first | (exact rfl; exact rfl) | exact rfl) | (apply aQ) | (apply aB) | (apply aN) | (apply bG; refine bP rfl ?_) | (apply aG; refine aZ rfl ob ?_))
        have hs : St w F0 _ [RowT x3 l3 d3 zs, RowU x1 l1 c1 xs', RowT x2 l2 d2 ys', OwnN (ps.take k ++ ps.drop (k + 1)), TabN (some ⟨b, o, none⟩) n c (qs.map rawN), bZ a2 m2 c2 rs, Own rs es, Blk b1 (.cells #[.slice (some ⟨b, o, none⟩) n c, .slice a2 m2 c2] 57 (0, 0))] := hs.sel [2, 1, 0, 3, 4, 5, 6, 7] (by decide)
        have hx2 := hyl
        clear hyl
        refine bT (α := Nat × List ST) [(1, _), (2, _), (9, _), (10, _), (58, _)] (fun g => [(59, .int .i64 g.1)]) (fun g w' => St w F0 w' [RowT x3 l3 d3 g.2, RowU x1 l1 c1 xs', RowT x2 l2 d2 ys', OwnN (ps.take k ++ ps.drop (k + 1)), TabN (some ⟨b, o, none⟩) n c (qs.map rawN), bZ a2 m2 c2 rs, Own rs es, Blk b1 (.cells #[.slice (some ⟨b, o, none⟩) n c, .slice a2 m2 c2] 57 (0, 0))] ∧ g.1 ≤ l3 ∧ g.2.length = l3) (fun g => l3 - g.1) (0, zs) ⟨hs, Nat.zero_le _, e3.symm⟩ zss ?_
        rintro ⟨j, zs'⟩ w5 ⟨hs1, hj, hyl⟩ ih4
        dsimp only at hs1 hj hyl ih4 ⊢
        by_cases hlj : j < l3
        · obtain ⟨p3, o3, rfl⟩ := (hs1.row x3 l3 d3).some (by omega)
          have hs : St w F0 w5 [_, _, _, _, _, _, _, _] := hs1
          have hy : zs'[j]? = some (zs'[j]'(by omega)) := List.getElem?_eq_getElem (by omega)
          obtain ⟨y, hyd⟩ : ∃ y, y = zs'[j]'(by omega) := ⟨_, rfl⟩
          rw [← hyd] at hy
          repeat' (first | ((apply aU; refine JL_u (by apply aP; exact cD (b := p3) (o := o3) (off := j * 2 + 1) (n := l3) (c := d3) (vs := [.int .i64 0]) hs rfl rfl rfl rfl (by simp [Value.oneCell']) (by show j * 2 + 1 + 1 ≤ l3 * 2; omega)) rfl ?_; rintro _ _ ⟨hs, hF⟩; rw [uB zs' j y 0 hy] at hs)) | (apply aH) | ((apply aC); (first | (apply aT; exact dG (b := b) (o := o) (off := k * 4 + 3) (n := n) (c := c) hs rfl hc3 aI) | exact zop); first | (exact rfl; exact rfl) | exact rfl) | (apply aQ) | (apply aB) | (apply aN) | (apply aW) | (apply aV) | (apply aG; refine aS rfl ob ?_))
          refine ih4 (j + 1, zs'.set j (y.1, 0)) _ _ ⟨hs, hlj, by dsimp only; rw [List.length_set]; exact hyl⟩ (by dsimp only; omega) zss
        · have hs : St w F0 w5 [_, _, _, _, _, _, _, _] := hs1
          clear ih4
          repeat' (first | (apply aH) | ((apply aC); exact zop; first | (exact rfl; exact rfl) | exact rfl) | (apply aQ) | (apply aB) | (apply aW) | (apply bG; refine bP rfl ?_) | (apply aG; refine aZ rfl ob ?_))
          have hs : St w F0 _ (row1 (u, ((x1, l1, c1), xs'), ((x2, l2, d2), ys'), ((x3, l3, d3), zs')) :: row2 (u, ((x1, l1, c1), xs'), ((x2, l2, d2), ys'), ((x3, l3, d3), zs')) :: row3 (u, ((x1, l1, c1), xs'), ((x2, l2, d2), ys'), ((x3, l3, d3), zs')) :: OwnN (ps.take k ++ ps.drop (k + 1)) :: [_, _, _, _]) := hs.sel [1, 2, 0, 3, 4, 5, 6, 7] (by decide)
          have hs := (hs.packN).inN
          refine ih (k + 1, ps.take k ++ (u, ((x1, l1, c1), xs'), ((x2, l2, d2), ys'), ((x3, l3, d3), zs')) :: ps.drop (k + 1)) _ _ ⟨hs, hlt, ?_, ?_⟩ (by show n - (k + 1) < n - k; omega) zss
          · show (ps.take k ++ _ :: ps.drop (k + 1)).map rawN = _
            rw [← hpr]
            conv => rhs; rw [← hsp]
            rw [List.map_append, List.map_append, List.map_cons, List.map_cons]
          · intro z hz
            rcases List.mem_append.1 hz with e | e
            · exact hpl z (List.mem_of_mem_take e)
            · rcases List.mem_cons.1 e with e | e
              · rw [e]; exact ⟨hx1.symm, hx2.symm, hyl.symm⟩
              · exact hpl z (List.mem_of_mem_drop e)
  · have hs : St w F0 w2 [_, _, _, _, _] := hs1
    clear ih
    repeat' (first | (apply aH) | ((apply aC); exact zop; first | (exact rfl; exact rfl) | exact rfl) | (apply aQ) | (apply aB) | (apply aN) | (apply bG; refine bP rfl ?_) | (apply aG; refine aZ rfl ob ?_))
    refine bT (α := Nat × List REnt) [(1, _), (76, _)] (fun g => [(77, .int .i64 g.1)]) (fun g w' => St w F0 w' [bZ a2 m2 c2 g.2, OwnN ps, TabN a n c (qs.map rawN), Own rs es, Blk b1 (.cells #[.slice a n c, .slice a2 m2 c2] 57 (0, 0))] ∧ g.1 ≤ m2 ∧ g.2.length = m2) (fun g => m2 - g.1) (0, rs) ⟨hs.sel [2, 0, 1, 3, 4] (by decide), Nat.zero_le _, hrl⟩ zss ?_
    rintro ⟨j, ys⟩ w3 ⟨hs1, hj, hyl⟩ ih
    dsimp only at hs1 hj hyl ih ⊢
    by_cases hlj : j < m2
    · obtain ⟨p2, o2, rfl⟩ := (hs1.row a2 m2 c2).some (by omega)
      have hs : St w F0 w3 [_, _, _, _, _] := hs1
      have hy : ys[j]? = some (ys[j]'(by omega)) := List.getElem?_eq_getElem (by omega)
      obtain ⟨y, hyd⟩ : ∃ y, y = ys[j]'(by omega) := ⟨_, rfl⟩
      rw [← hyd] at hy
      repeat' (first | ((apply aU; refine JL_u (by apply aP; exact cD (b := p2) (o := o2) (off := j * 3 + 2) (n := m2) (c := c2) (vs := [.int .i64 99]) hs rfl rfl rfl rfl (by simp [Value.oneCell']) (by show j * 3 + 2 + 1 ≤ m2 * 3; omega)) rfl ?_; rintro _ _ ⟨hs, hF⟩; rw [aBh ys j y 99 hy] at hs)) | (apply aH) | ((apply aC); exact zop; first | (exact rfl; exact rfl) | exact rfl) | (apply aQ) | (apply aB) | (apply aN) | (apply aW) | (apply aV) | (apply aG; refine aS rfl ob ?_))
      refine ih (j + 1, ys.set j (y.1, y.2.1, 99)) _ _ ⟨hs, hlj, by dsimp only; rw [List.length_set]; exact hyl⟩ (by dsimp only; omega) zss
    · have hs : St w F0 w3 [_, _, _, _, _] := hs1
      repeat' (first | (apply aH) | ((apply aC); exact zop; first | (exact rfl; exact rfl) | exact rfl) | (apply aQ) | (apply aB) | (apply bG; refine bP rfl ?_) | (apply aG; refine aZ rfl ob ?_))
      refine eI Tryz.func42 rfl .nil ?_
      exact hend _ _ hs
end Go.Eng
end
section
namespace Go.Eng
open Go.Proofs
set_option linter.unusedSimpArgs false
set_option linter.unusedVariables false
theorem aBc {α : Type} (l : List α) (f g : α → Bool) (h : ∀ x, f x = true → g x = false) : (l.filter f).length + (l.filter g).length ≤ l.length := by
  induction l with
  | nil => exact Nat.le_refl _
  | cons x l ih =>
    rw [List.filter_cons, List.filter_cons]
    cases hf : f x with
    | true =>
      rw [h x hf, if_pos rfl, if_neg (by decide), List.length_cons, List.length_cons]
      omega
    | false =>
      rw [if_neg (by decide)]
      cases hg : g x with
      | true => rw [if_pos rfl, List.length_cons, List.length_cons]; omega
      | false => rw [if_neg (by decide), List.length_cons]; omega
theorem wiT_le (l : List Int) (id : Int) : (wiT l id).length ≤ l.length + 1 := by
  have := aBc l (fun x => decide (x < id)) (fun x => decide (id < x)) (fun x hx => decide_eq_false (by have := of_decide_eq_true hx; omega))
  unfold wiT
  rw [List.length_append, List.length_cons]
  omega
theorem wiS_le (l : List ST) (s : ST) : (wiS l s).length ≤ l.length + 1 := by
  have := aBc l (fun x => decide (x.1 < s.1)) (fun x => decide (s.1 < x.1)) (fun x hx => decide_eq_false (by have := of_decide_eq_true hx; omega))
  unfold wiS
  rw [List.length_append, List.length_cons]
  omega
def bndN (b : Nat) (N : List NM) : Prop := ∀ x ∈ N, x.2.1.length ≤ b ∧ x.2.2.1.length ≤ b ∧ x.2.2.2.length ≤ b
theorem tiny.bnd {k : Nat} {N : List NM} (h : tiny k N) (hk : k ≤ 1000) : bndN 1020 N := fun x hx => by
  obtain ⟨h1, h2, h3⟩ := h.2 x hx
  exact ⟨by omega, by omega, by omega⟩
theorem bndN.sz {b : Nat} {N : List NM} (h : bndN b N) (hb : b ≤ 1000000) : szN N := fun x hx => by
  obtain ⟨h1, h2, h3⟩ := h x hx
  exact ⟨by omega, by omega, by omega⟩
theorem bndN.at {b : Nat} {N : List NM} (h : bndN b N) (i : Nat) : (N.getD i n0).2.1.length ≤ b ∧ (N.getD i n0).2.2.1.length ≤ b ∧ (N.getD i n0).2.2.2.length ≤ b := by
  rw [List.getD_eq_getElem?_getD]
  cases hx : N[i]? with
  | none => exact ⟨Nat.zero_le _, Nat.zero_le _, Nat.zero_le _⟩
  | some x => exact h x (List.mem_of_getElem? hx)
theorem bndN.of {b : Nat} {N : List NM} (h : bndN b N) {T : List Int} (hT : T.length ≤ b) : bndN b (ofL N T) := fun x hx => by
  unfold ofL at hx
  split at hx
  · split at hx
    · exact h x hx
    · obtain ⟨i, hi⟩ := List.mem_iff_getElem?.1 hx
      rw [iM (fU N)] at hi
      split at hi
      · cases hi; exact ⟨hT, Nat.zero_le _, Nat.zero_le _⟩
      · exact h x (List.mem_of_getElem? hi)
  · cases hx
theorem bndN.link {b : Nat} {N : List NM} (h : bndN b N) (lo hi : Nat) (id : Int) : bndN (b + 1) (fF N lo hi id) := fun x hx => by
  unfold fF at hx
  obtain ⟨a1, a2, a3⟩ := h.at lo
  obtain ⟨b1, b2', b3⟩ := h.at hi
  rcases List.mem_or_eq_of_mem_set hx with hx | hx
  · rcases List.mem_or_eq_of_mem_set hx with hx | hx
    · obtain ⟨c1, c2, c3⟩ := h x hx
      exact ⟨by omega, by omega, by omega⟩
    · rw [hx]
      exact ⟨Nat.le_succ_of_le b1, Nat.le_succ_of_le b2', Nat.le_trans (wiS_le _ _) (by omega)⟩
  · rw [hx]
    exact ⟨Nat.le_succ_of_le a1, Nat.le_trans (wiS_le _ _) (by omega), Nat.le_succ_of_le a3⟩
theorem bndN.mono {b c : Nat} {N : List NM} (h : bndN b N) (hc : b ≤ c) : bndN c N := fun x hx => by
  obtain ⟨h1, h2, h3⟩ := h x hx
  exact ⟨by omega, by omega, by omega⟩
theorem bndN.go {b : Nat} {N : List NM} (h : bndN b N) (n id : Int) (plus : Bool) : bndN (b + 2) (goL N n id plus) := by
  have hT : (goT N n id plus).length ≤ b + 1 := by
    have h1 := (h.at (n - 1).toNat).1
    unfold goT cZ
    cases plus with
    | true => exact Nat.le_trans (wiT_le _ _) (by omega)
    | false => exact Nat.le_trans (rY _ _) (by omega)
  have h2 := (h.mono (Nat.le_succ b)).of hT
  unfold goL
  split
  · split
    · exact h.mono (by omega)
    · split
      · exact h2.link _ _ _
      · exact h2.link _ _ _
  · exact fun x hx => by cases hx
theorem go_sz {k : Nat} {N : List NM} (h : tiny k N) (hk : k ≤ 1000) (n id : Int) (plus : Bool) : szN (goL N n id plus) := ((h.bnd hk).go n id plus).sz (by omega)
end Go.Eng
end
section
namespace Go.Eng
open Go.Proofs
set_option linter.unusedSimpArgs false
set_option linter.unusedVariables false
abbrev dTurn : Ty (Int × Int × Int × List Int) := tPair (tInt .i64) (tPair (tInt .i64) (tPair (tInt .u64) (tSl (tInt .u64))))
abbrev RTurn := Int × Int × Int × RS
abbrev aBo : Ty RTurn := tPair (tInt .i64) (tPair (tInt .i64) (tPair (tInt .u64) tS))
abbrev mTurn : Rel RTurn (Int × Int × Int × List Int) := jP (tO Int) (jP (tO Int) (jP (tO Int) (xY (tInt .u64))))
abbrev cTurn (p : RTurn) : List Value := [.int .i64 p.1, .int .i64 p.2.1, .int .u64 p.2.2.1, .slice p.2.2.2.1 p.2.2.2.2.1 p.2.2.2.2.2]
theorem flatTurn : FlatTy aBo cTurn (fun p => inK .i64 p.1 ∧ inK .i64 p.2.1 ∧ inK .u64 p.2.2.1 ∧ True) :=
  (inferInstance : FlatTy (tPair (tInt .i64) (tPair (tInt .i64) (tPair (tInt .u64) tS))) (fun p => [.int .i64 p.1] ++ ([.int .i64 p.2.1] ++ ([.int .u64 p.2.2.1] ++ [.slice p.2.2.2.1 p.2.2.2.2.1 p.2.2.2.2.2]))) (fun p => inK .i64 p.1 ∧ inK .i64 p.2.1 ∧ inK .u64 p.2.2.1 ∧ True))
instance (priority := high) : FlatTy aBo cTurn (fun p => inK .i64 p.1 ∧ inK .i64 p.2.1 ∧ inK .u64 p.2.2.1 ∧ True) := flatTurn
theorem rawTurn : RawTy dTurn aBo mTurn := inferInstance
theorem slTT {w0 w : World} {L : List HP} {a : Option Addr} {q c : Nat} {tt : List Int} (hs : St w0 NoF w L) (h3 : Row a q c 29 1 (mX tt) ∈ L) (hin : ∀ u ∈ tt, inK .u64 u) : Sl (tInt .u64) All w a q c tt := (RowV.sl (hs.all _ h3) hin).weak (fun _ _ => trivial)
theorem xP {w : World} {a : Option Addr} {n c : Nat} {rs : List REnt} (h : RowV w a n c 139 3 (encL bS rs)) : rs.length = n := by
  have h1 := h.1
  rw [xB] at h1
  omega
theorem aBq (x : NM) : cutN (cutN x) = cutN x := by
  unfold cutN
  simp only [List.take_take, Nat.min_self]
theorem yC (N : List NM) : gH (gH N) = gH N := by
  have h : (gH N).take 30 = gH N := List.take_of_length_le (tR N)
  have e : gH (gH N) = ((gH N).take 30).map cutN := rfl
  rw [e, h]
  show ((N.take 30).map cutN).map cutN = (N.take 30).map cutN
  rw [List.map_map]
  exact List.map_congr_left (fun x _ => aBq x)
theorem yD (E : List Ent) : iK (iK E) = iK E := by
  have h : (iK E).take 128 = iK E := List.take_of_length_le (gZ E)
  have e : iK (iK E) = ((iK E).take 128).map cutE := rfl
  rw [e, h]
  show ((E.take 128).map cutE).map cutE = (E.take 128).map cutE
  rw [List.map_map]
  refine List.map_congr_left (fun x _ => ?_)
  show cutE (cutE x) = cutE x
  unfold cutE
  simp only [List.take_take, Nat.min_self]
theorem go_no {N : List NM} {n id : Int} {plus : Bool} (h : goC N n id plus ≠ 0) : gon N n id plus = 0 ∧ goL N n id plus = [] := by
  unfold gon goL
  rw [if_neg h, if_neg h]
  exact ⟨rfl, rfl⟩
theorem of_no {N : List NM} {t : List Int} (h : ofC N t ≠ 0) : ofn N t = 0 ∧ ofL N t = [] := by
  unfold ofn ofL
  rw [if_neg h, if_neg h]
  exact ⟨rfl, rfl⟩
theorem dr_no {N : List NM} {n : Int} (h : drC N n ≠ 0) : drL N n = [] := by
  unfold drL
  rw [if_neg h]
def GotOk (qs : List QN) (es : List Ent) (N : List NM) (m m2 : Nat) (cd : Int) : Prop :=
  (qs.map fO = N ∧ ∀ q ∈ qs, okN q) ∧ (N.length = m ∧ es.length = m2 ∧ m ≤ 40 ∧ m2 ≤ 1048576) ∧ szN N ∧ xW N es N = true ∧ (cd = 0 → dP N es = true)
theorem gotOk_no {cd : Int} (h : cd ≠ 0) : GotOk [] [] [] 0 0 cd := ⟨⟨rfl, fun q hq => by cases hq⟩, ⟨rfl, rfl, Nat.zero_le _, Nat.zero_le _⟩, (fun x hx => by cases hx), saysG_no, fun e => absurd e h⟩
theorem mJ {qs : List QN} {es : List Ent} {N : List NM} {m m2 : Nat} (h1 : qs.map fO = N ∧ ∀ q ∈ qs, okN q) (h2 : cH es = true ∧ allM es = dZ N) (h3 : N.length = m ∧ es.length = m2 ∧ m2 ≤ 1048576) (hm : m ≤ 40) (hz : szN N) (g : GR N) : GotOk qs es N m m2 0 :=
  ⟨h1, ⟨h3.1, h3.2.1, hm, h3.2.2⟩, hz, saysG_ok g h2.1 h2.2, fun _ => check_iff.2 ⟨g, h2.1, h2.2⟩⟩
attribute [local irreducible] Hold J JL JD JX JXat OpR OpG Ret RetV Is Blk Row
set_option maxRecDepth 100000
set_option maxHeartbeats 4000000
theorem graphTurns_w (w : World) (a : Option Addr) (n c : Nat) (N : List NM) (a2 : Option Addr) (n2 c2 : Nat) (E : List Ent) (a3 : Option Addr) (n3 c3 : Nat) (ts : List (Int × Int × Int × List Int)) (h : Sl eD All w a n c N) (hEn : Sl dEnt All w a2 n2 c2 E) (hts : Sl dTurn All w a3 n3 c3 ts) :
    Ret Tryz.prog 5 #[.agg #[.slice a n c, .slice a2 n2 c2], .slice a3 n3 c3] w fun v w' => v = .bool true ∧ Ext w w' := by
  refine bI (l := [_, _]) Tryz.func5 rfl Tryz.ntmps5 (by simp) ?_
  have hs := St.init w
  obtain ⟨N0, hN0⟩ : ∃ N0, N0 = gH N := ⟨_, rfl⟩
  obtain ⟨E0, hE0'⟩ : ∃ E0, E0 = iK E := ⟨_, rfl⟩
  obtain ⟨sts, hsr, hsm⟩ := Sl.raw (D := rawTurn) hts
  obtain ⟨_, _, hsok⟩ := hsr.srcF
  have hsl := hsr.len
  have hml := hts.le
  have hmc := hts.cap
  unfold maxLen at hmc
  repeat' (first | ((apply aL 30; refine JL_o (by exact aA en30 rfl (aA6 _)) rfl rfl ?_; rintro _ _ ⟨rfl, hE⟩; have hs := hs.ext hE; (try simp only [zcc] at hs))) | ((apply aL 31; refine JL_o (by exact aA en31 rfl ((kM _ a a2 n c n2 c2 N E (h.st hs) (hEn.st hs)).mono (fun _ _ r => by rw [← hN0, ← hE0'] at r; exact r))) rfl rfl ?_; rintro _ _ ⟨qs, re, a5, a6, c5, c6, ⟨hqm, hqo⟩, rfl, hf⟩; have hs := hs.fresh hf; (try simp only [zcc] at hs))) | (apply aH) | ((apply aC); exact zop; first | (exact rfl; exact rfl) | exact rfl) | (apply aQ) | (apply aB) | (apply aN) | (apply aV) | (apply aF (t := 2); refine JL_o (by apply bN; exact bC hs rfl) rfl rfl ?_; rintro _ _ ⟨b2, rfl, hb2, hs, hE⟩) | (apply aF (t := 5); refine JL_o (by apply aR; exact aJ hs) rfl rfl ?_; rintro _ _ ⟨b5, rfl, hb5, hs, hE⟩) | (apply aU; refine JL_u (by apply aP; exact aK hs rfl rfl rfl) rfl ?_; rintro _ _ ⟨hs, hF⟩) | (apply aG; refine bD rfl gb ?_))
  · skip
    refine bT (α := Nat × List NM × List Ent × List QN × List REnt × Option Addr × Nat × Option Addr × Nat) [(2, _), (5, _), (22, _), (23, _)] (fun g => [(24, .int .i64 g.1)]) (fun g w' => St w NoF w' [Blk b5 (.cells #[.slice g.2.2.2.2.2.1 g.2.1.length g.2.2.2.2.2.2.1, .slice g.2.2.2.2.2.2.2.1 g.2.2.1.length g.2.2.2.2.2.2.2.2] 57 (0, 0)), TabN g.2.2.2.2.2.1 g.2.1.length g.2.2.2.2.2.2.1 (g.2.2.2.1.map rawN), OwnN g.2.2.2.1, bZ g.2.2.2.2.2.2.2.1 g.2.2.1.length g.2.2.2.2.2.2.2.2 g.2.2.2.2.1, Own g.2.2.2.2.1 g.2.2.1, Blk b2 (.cells #[.slice a n c, .slice a2 n2 c2] 57 (0, 0))] ∧ (g.2.2.2.1.map fO = g.2.1 ∧ ∀ q ∈ g.2.2.2.1, okN q) ∧ (gH g.2.1 = g.2.1 ∧ iK g.2.2.1 = g.2.2.1) ∧ (dP N0 E0 = true → dP g.2.1 g.2.2.1 = true) ∧ g.1 ≤ n3 ∧ g.1 ≤ 8) (fun g => n3 - g.1) (0, N0, E0, qs, re, a5, c5, a6, c6) ⟨hs, ⟨hqm, hqo⟩, ⟨by dsimp only; rw [hN0]; exact yC N, by dsimp only; rw [hE0']; exact yD E⟩, id, Nat.zero_le _, Nat.zero_le _⟩ zss ?_
    rintro ⟨k, N1, E1, qg, rg, ag, cg, ag2, cg2⟩ w2 ⟨hs1, ⟨hgm, hgo⟩, ⟨hNi, hEi⟩, hinv, hk, hk8⟩ ih
    dsimp only at hs1 hgm hgo hNi hEi hinv hk hk8 ih ⊢
    by_cases hlt : k < n3
    rotate_left
    · have hs : St w NoF w2 [_, _, _, _, _, _] := hs1
      clear ih
      have hT : tiny 0 N1 := by rw [← hNi]; exact jC N1
      have hsz : szN N1 := hT.sz (by omega)
      have hN30 : N1.length ≤ 30 := hT.1
      have hE128 : E1.length ≤ 128 := by rw [← hEi]; exact gZ E1
      have hT0 : tiny 0 N0 := by rw [hN0]; exact jC N
      have hsz0 : szN N0 := hT0.sz (by omega)
      have hN030 : N0.length ≤ 30 := hT0.1
      have hE0128 : E0.length ≤ 128 := by rw [hE0']; exact gZ E
      obtain ⟨cb0, hcb0⟩ : ∃ b, dP N0 E0 = b := ⟨_, rfl⟩
      cases cb0 with
      | false =>
        repeat' (first | ((apply aL 31; refine JL_o (by exact aA en31 rfl ((kM _ a a2 n c n2 c2 N E (h.st hs) (hEn.st hs)).mono (fun _ _ r => by rw [← hN0, ← hE0'] at r; exact r))) rfl rfl ?_; rintro _ _ ⟨q7, r7, a7, a8, c7, c8, ⟨hm7, ho7⟩, rfl, hf⟩; have hs := hs.fresh hf; (try simp only [zcc] at hs))) | ((apply aL 32; refine JL_o (by exact aA en32 rfl (gA _ a7 a8 N0.length c7 E0.length c8 N0 E0 (slG (qs := q7) hs hm7 ho7 zmm zmm) (eM (rs := r7) hs zmm zmm) (by omega) (by omega) hsz0)) rfl rfl ?_; rintro _ _ ⟨rfl, hE⟩; rw [hcb0]; have hs := hs.ext hE; (try simp only [zcc] at hs))) | (apply aH) | ((apply aC); exact zop; first | (exact rfl; exact rfl) | exact rfl) | (apply aQ) | (apply aB) | (apply bG; refine bP rfl ?_) | (apply bK; first | (refine qC rfl rfl ?_) | (refine cY rfl gb rfl ?_)) | (apply aG; refine aZ rfl ob ?_))
        refine aM Tryz.func5 rfl (.tmp rfl .nil) ⟨rfl, hs.frm.ext⟩
      | true =>
        have hc1 := hinv hcb0
        obtain ⟨g1, _, _⟩ := check_iff.1 hc1
        obtain ⟨x0, hx0, hu0, ht0⟩ := g1.first
        obtain ⟨q, hq0, hqm⟩ := oX hgm hx0
        have hqM := List.mem_of_getElem? hq0
        have hrr : (qg.map rawN)[0]? = some (rawN q) := by rw [List.getElem?_map, hq0]; rfl
        have hq1 : q.2.1.2 = [] := by rw [← ht0, ← hqm]
        have hlen := (List.getElem?_eq_some_iff.1 hx0).1
        obtain ⟨p8, o8, rfl⟩ := (hs.row ag N1.length cg).some (by omega)
        have hs : St w NoF w2 [_, _, _, _, _, _] := hs1
        repeat' (first | ((apply aL 31; refine JL_o (by exact aA en31 rfl ((kM _ a a2 n c n2 c2 N E (h.st hs) (hEn.st hs)).mono (fun _ _ r => by rw [← hN0, ← hE0'] at r; exact r))) rfl rfl ?_; rintro _ _ ⟨q7, r7, a7, a8, c7, c8, ⟨hm7, ho7⟩, rfl, hf⟩; have hs := hs.fresh hf; (try simp only [zcc] at hs))) | ((apply aL 32; refine JL_o (by exact aA en32 rfl (gA _ a7 a8 N0.length c7 E0.length c8 N0 E0 (slG (qs := q7) hs hm7 ho7 zmm zmm) (eM (rs := r7) hs zmm zmm) (by omega) (by omega) hsz0)) rfl rfl ?_; rintro _ _ ⟨rfl, hE⟩; rw [hcb0]; have hs := hs.ext hE; (try simp only [zcc] at hs))) | ((apply bE 32; refine bM rfl gb (by exact aA en32 rfl (gA _ (some ⟨p8, o8, none⟩) ag2 N1.length cg E1.length cg2 N1 E1 (slG (qs := qg) hs hgm hgo zmm zmm) (eM (rs := rg) hs zmm zmm) (by omega) (by omega) hsz)) rfl rfl ?_; rintro _ _ ⟨rfl, hE⟩; rw [hc1]; have hs := hs.ext hE; (try simp only [zcc] at hs))) | ((apply bE 26; refine bM rfl gb (by exact aA en26 rfl (eQ _ q.2.1.1.1 q.2.1.1.2.1 q.2.1.1.2.2 [] (Sl.to hq1 (slRow1 (qs := qg) hs zmm hgo hqM)))) rfl rfl ?_; rintro _ _ ⟨rfl, hE⟩; rw [tw0]; have hs := hs.ext hE; (try simp only [zcc] at hs))) | (apply aH) | ((first | (apply aC) | (apply bA; exact rfl; exact gb)); (first | (apply aT; exact aX (i := 0) (j := 1) (slRN (rs := qg.map rawN) hs zmm) hrr rfl rfl rfl aI) | exact zop); first | (exact rfl; exact rfl) | exact rfl) | (apply aQ) | (apply aB) | (apply bG; refine bP rfl ?_) | (apply aG; refine aZ rfl ob ?_))
        refine aM Tryz.func5 rfl (.tmp rfl .nil) ⟨rfl, hs.frm.ext⟩
    obtain ⟨p, o, rfl⟩ := hsr.sl.addr (by omega)
    have hs : St w NoF w2 [_, _, _, _, _, _] := hs1
    have hx : sts[k]? = some (sts[k]'(by omega)) := List.getElem?_eq_getElem (by omega)
    have hxs : ts[k]? = some (ts[k]'(by have := hsm.1; omega)) := List.getElem?_eq_getElem _
    obtain ⟨⟨kd, nd, idv, ra, rn, rc⟩, hrd⟩ : ∃ r, r = sts[k]'(by omega) := ⟨_, rfl⟩
    obtain ⟨x, hxd⟩ : ∃ x, x = ts[k]'(by have := hsm.1; omega) := ⟨_, rfl⟩
    rw [← hrd] at hx
    rw [← hxd] at hxs
    by_cases h8 : k = 8
    · clear ih
      have hT : tiny 0 N1 := by rw [← hNi]; exact jC N1
      have hsz : szN N1 := hT.sz (by omega)
      have hN30 : N1.length ≤ 30 := hT.1
      have hE128 : E1.length ≤ 128 := by rw [← hEi]; exact gZ E1
      have hT0 : tiny 0 N0 := by rw [hN0]; exact jC N
      have hsz0 : szN N0 := hT0.sz (by omega)
      have hN030 : N0.length ≤ 30 := hT0.1
      have hE0128 : E0.length ≤ 128 := by rw [hE0']; exact gZ E
      obtain ⟨cb0, hcb0⟩ : ∃ b, dP N0 E0 = b := ⟨_, rfl⟩
      cases cb0 with
      | false =>
        repeat' (first | ((apply aL 31; refine JL_o (by exact aA en31 rfl ((kM _ a a2 n c n2 c2 N E (h.st hs) (hEn.st hs)).mono (fun _ _ r => by rw [← hN0, ← hE0'] at r; exact r))) rfl rfl ?_; rintro _ _ ⟨q7, r7, a7, a8, c7, c8, ⟨hm7, ho7⟩, rfl, hf⟩; have hs := hs.fresh hf; (try simp only [zcc] at hs))) | ((apply aL 32; refine JL_o (by exact aA en32 rfl (gA _ a7 a8 N0.length c7 E0.length c8 N0 E0 (slG (qs := q7) hs hm7 ho7 zmm zmm) (eM (rs := r7) hs zmm zmm) (by omega) (by omega) hsz0)) rfl rfl ?_; rintro _ _ ⟨rfl, hE⟩; rw [hcb0]; have hs := hs.ext hE; (try simp only [zcc] at hs))) | (apply aH) | ((apply aC); (first | (apply aT; exact aO (i := k) (hsr.st hs) hx rfl rfl aI) | exact zop); first | (exact rfl; exact rfl) | exact rfl) | (apply aQ) | (apply aB) | (apply aN) | (apply bG; refine bP rfl ?_) | (apply aV) | (apply aF (t := 7); refine JL_o (by apply aR; exact aJ hs) rfl rfl ?_; rintro _ _ ⟨b7, rfl, hb7, hs, hE⟩) | (apply aU; refine JL_u (by apply aP; exact aK hs rfl rfl rfl) rfl ?_; rintro _ _ ⟨hs, hF⟩) | (apply bK; first | (refine qC rfl rfl ?_) | (refine cY rfl gb rfl ?_)) | (apply aG; refine aS rfl ob ?_))
        refine aM Tryz.func5 rfl (.tmp rfl .nil) ⟨rfl, hs.frm.ext⟩
      | true =>
        have hc1 := hinv hcb0
        obtain ⟨g1, _, _⟩ := check_iff.1 hc1
        obtain ⟨x0, hx0, hu0, ht0⟩ := g1.first
        obtain ⟨q, hq0, hqm⟩ := oX hgm hx0
        have hqM := List.mem_of_getElem? hq0
        have hrr : (qg.map rawN)[0]? = some (rawN q) := by rw [List.getElem?_map, hq0]; rfl
        have hq1 : q.2.1.2 = [] := by rw [← ht0, ← hqm]
        have hlen := (List.getElem?_eq_some_iff.1 hx0).1
        obtain ⟨p8, o8, rfl⟩ := (hs.row ag N1.length cg).some (by omega)
        have hs : St w NoF w2 [_, _, _, _, _, _] := hs1
        repeat' (first | ((apply aL 31; refine JL_o (by exact aA en31 rfl ((kM _ a a2 n c n2 c2 N E (h.st hs) (hEn.st hs)).mono (fun _ _ r => by rw [← hN0, ← hE0'] at r; exact r))) rfl rfl ?_; rintro _ _ ⟨q7, r7, a7, a8, c7, c8, ⟨hm7, ho7⟩, rfl, hf⟩; have hs := hs.fresh hf; (try simp only [zcc] at hs))) | ((apply aL 32; refine JL_o (by exact aA en32 rfl (gA _ a7 a8 N0.length c7 E0.length c8 N0 E0 (slG (qs := q7) hs hm7 ho7 zmm zmm) (eM (rs := r7) hs zmm zmm) (by omega) (by omega) hsz0)) rfl rfl ?_; rintro _ _ ⟨rfl, hE⟩; rw [hcb0]; have hs := hs.ext hE; (try simp only [zcc] at hs))) | ((apply bE 32; refine bM rfl gb (by exact aA en32 rfl (gA _ (some ⟨p8, o8, none⟩) ag2 N1.length cg E1.length cg2 N1 E1 (slG (qs := qg) hs hgm hgo zmm zmm) (eM (rs := rg) hs zmm zmm) (by omega) (by omega) hsz)) rfl rfl ?_; rintro _ _ ⟨rfl, hE⟩; rw [hc1]; have hs := hs.ext hE; (try simp only [zcc] at hs))) | ((apply bE 26; refine bM rfl gb (by exact aA en26 rfl (eQ _ q.2.1.1.1 q.2.1.1.2.1 q.2.1.1.2.2 [] (Sl.to hq1 (slRow1 (qs := qg) hs zmm hgo hqM)))) rfl rfl ?_; rintro _ _ ⟨rfl, hE⟩; rw [tw0]; have hs := hs.ext hE; (try simp only [zcc] at hs))) | (apply aH) | ((first | (apply aC) | (apply bA; exact rfl; exact gb)); (first | (apply aT; first | exact aO (i := k) (hsr.st hs) hx rfl rfl aI | exact aX (i := 0) (j := 1) (slRN (rs := qg.map rawN) hs zmm) hrr rfl rfl rfl aI) | exact zop); first | (exact rfl; exact rfl) | exact rfl) | (apply aQ) | (apply aB) | (apply aN) | (apply bG; refine bP rfl ?_) | (apply aV) | (apply aF (t := 7); refine JL_o (by apply aR; exact aJ hs) rfl rfl ?_; rintro _ _ ⟨b7, rfl, hb7, hs, hE⟩) | (apply aU; refine JL_u (by apply aP; exact aK hs rfl rfl rfl) rfl ?_; rintro _ _ ⟨hs, hF⟩) | (apply aG; refine aS rfl ob ?_))
        refine aM Tryz.func5 rfl (.tmp rfl .nil) ⟨rfl, hs.frm.ext⟩
    obtain ⟨_, _, _, mx⟩ := hsm.2 k _ x hx hxs
    have mx : Sl (tInt .u64) All w ra rn rc x.2.2.2 := mx
    obtain ⟨_, hnd, hid, _⟩ := hsok _ (List.mem_of_getElem? hx)
    have hnd : inK .i64 nd := hnd
    have hid : okId idv := hid
    obtain ⟨qn, hq⟩ : ∃ q, q = min rn 14 := ⟨_, rfl⟩
    have mcut := mx.cut qn (by omega)
    have hmn := mx.len
    have hmcap := mx.le
    have hmcp := mx.cap
    unfold maxLen at hmcp
    obtain ⟨tt, htt⟩ : ∃ tt, tt = x.2.2.2.take qn := ⟨_, rfl⟩
    rw [← htt] at mcut
    obtain ⟨_, _, hin⟩ := mcut.srcF
    have htl := mcut.len
    have hT : tiny 0 N1 := by rw [← hNi]; exact jC N1
    have hsz : szN N1 := hT.sz (by omega)
    have hN30 : N1.length ≤ 30 := hT.1
    have hE128 : E1.length ≤ 128 := by rw [← hEi]; exact gZ E1
    obtain ⟨cb, hcb⟩ : ∃ cb, dP N1 E1 = cb := ⟨_, rfl⟩
    repeat' (first | ((apply aj_block 2; refine J_cutK (γ := List QN × List Ent × List REnt × List NM × (Option Addr × Nat × Nat) × (Option Addr × Nat × Nat) × (Option Addr × Nat × Nat) × Int × Int) [(2, _), (5, _), (7, _), (8, _), (9, _), (10, _), (22, _), (23, _), (24, _)] zss (fun g => [(11, .slice g.2.2.2.2.2.2.1.1 g.2.2.2.2.2.2.1.2.1 g.2.2.2.2.2.2.1.2.2), (12, .int .i64 g.2.2.2.2.2.2.2.2), (13, .int .i64 g.2.2.2.2.2.2.2.2), (14, .int .i64 g.2.2.2.2.2.2.2.1), (15, .int .i64 g.2.2.2.2.2.2.2.1)]) (fun g w' => St w NoF w' [Blk b10 (.cells #[.slice g.2.2.2.2.1.1 g.2.2.2.2.1.2.1 g.2.2.2.2.1.2.2, .slice g.2.2.2.2.2.1.1 g.2.2.2.2.2.1.2.1 g.2.2.2.2.2.1.2.2] 57 (0, 0)), TabN g.2.2.2.2.1.1 g.2.2.2.2.1.2.1 g.2.2.2.2.1.2.2 (g.1.map rawN), OwnN g.1, bZ g.2.2.2.2.2.1.1 g.2.2.2.2.2.1.2.1 g.2.2.2.2.2.1.2.2 g.2.2.1, Own g.2.2.1 g.2.1, Row ar qn cr 29 1 (mX tt), Blk b8 (.cells #[.slice aw N1.length cw, .slice aw2 E1.length cw2] 57 (0, 0)), TabN aw N1.length cw (qw.map rawN), OwnN qw, bZ aw2 E1.length cw2 rw', Own rw' E1, Blk b7 (.cells #[.int .i64 kd, .int .i64 nd, .int .u64 idv, .slice ra rn rc] 61 (0, 0)), Blk b5 (.cells #[.slice ag N1.length cg, .slice ag2 E1.length cg2] 57 (0, 0)), TabN ag N1.length cg (qg.map rawN), OwnN qg, bZ ag2 E1.length cg2 rg, Own rg E1, Blk b2 (.cells #[.slice a n c, .slice a2 n2 c2] 57 (0, 0))] ∧ GotOk g.1 g.2.1 g.2.2.2.1 g.2.2.2.2.1.2.1 g.2.2.2.2.2.1.2.1 g.2.2.2.2.2.2.2.1 ∧ Sl eD All w' g.2.2.2.2.2.2.1.1 g.2.2.2.2.2.2.1.2.1 g.2.2.2.2.2.2.1.2.2 g.2.2.2.1) (fun RR kk hcont => hold ?_) (hold ?_))) | ((apply aL 31; refine JL_o (by exact aA en31 rfl ((kM _ ag ag2 N1.length cg E1.length cg2 N1 E1 (slG (qs := qg) hs hgm hgo zmm zmm) (eM (rs := rg) hs zmm zmm)).mono (fun _ _ r => by rw [hNi, hEi] at r; exact r))) rfl rfl ?_; rintro _ _ ⟨qw, rw', aw, aw2, cw, cw2, ⟨hwm, hwo⟩, rfl, hf⟩; have hs := hs.fresh hf; (try simp only [zcc] at hs))) | ((apply aL 24; refine JL_o (by exact aA en24 rfl (lJ _ ra qn rc tt (mcut.st hs) (by omega))) rfl rfl ?_; rintro _ _ ⟨ar, cr, rfl, hf⟩; have hs := hs.fresh hf; (try simp only [zcc] at hs))) | ((apply aL 32; refine JL_o (by exact aA en32 rfl (gA _ ag ag2 N1.length cg E1.length cg2 N1 E1 (slG (qs := qg) hs hgm hgo zmm zmm) (eM (rs := rg) hs zmm zmm) (by omega) (by omega) hsz)) rfl rfl ?_; rintro _ _ ⟨rfl, hE⟩; rw [hcb]; have hs := hs.ext hE; (try simp only [zcc] at hs))) | (apply aH) | ((apply aC); (first | (apply dA; exact dO (kl := .i64) (kh := .i64) (km := .i64) (a' := ra) (l := 0) (m := rc) (h := min (rn : Int) 14) rfl (.inl ⟨rfl, rfl⟩) (.inr ⟨_, rfl, rfl⟩) (.inl ⟨rfl, rfl⟩) (by omega) (by omega) (by omega) (by omega) (by split; rfl; exact zB _) (by rw [show (min (rn : Int) 14 - 0).toNat = qn by omega, Int.sub_zero, Int.toNat_natCast]; exact aI)) | (apply aT; exact aO (i := k) (hsr.st hs) hx rfl rfl aI) | exact zop); first | (exact rfl; exact rfl) | exact rfl) | (apply aQ) | (apply aB) | (apply aN) | (apply aV) | (apply aF (t := 7); refine JL_o (by apply aR; exact aJ hs) rfl rfl ?_; rintro _ _ ⟨b7, rfl, hb7, hs, hE⟩) | (apply aF (t := 8); refine JL_o (by apply aR; exact aJ hs) rfl rfl ?_; rintro _ _ ⟨b8, rfl, hb8, hs, hE⟩) | (apply aF (t := 10); refine JL_o (by apply aR; exact aJ hs) rfl rfl ?_; rintro _ _ ⟨b10, rfl, hb10, hs, hE⟩) | (apply aU; refine JL_u (by apply aP; exact aK hs rfl rfl rfl) rfl ?_; rintro _ _ ⟨hs, hF⟩) | (apply aG; first | refine aS rfl ob ?_ | refine aZ rfl ob ?_))
    · refine oQ ?_
      clear ih
      have hs : St w NoF _ [Blk b10 (.cells #[.slice none 0 0, .slice none 0 0] 57 (0, 0)), Row ar qn cr 29 1 (mX tt), Blk b8 (.cells #[.slice aw N1.length cw, .slice aw2 E1.length cw2] 57 (0, 0)), TabN aw N1.length cw (qw.map rawN), OwnN qw, bZ aw2 E1.length cw2 rw', Own rw' E1, Blk b7 (.cells #[.int .i64 kd, .int .i64 nd, .int .u64 idv, .slice ra rn rc] 61 (0, 0)), Blk b5 (.cells #[.slice ag N1.length cg, .slice ag2 E1.length cg2] 57 (0, 0)), TabN ag N1.length cg (qg.map rawN), OwnN qg, bZ ag2 E1.length cg2 rg, Own rg E1, Blk b2 (.cells #[.slice a n c, .slice a2 n2 c2] 57 (0, 0))] := hs
      have hnil : ∀ {W : World} {cd : Int} {wa : Option Addr} {wn wc : Nat}, St w NoF W [Blk b10 (.cells #[.slice none 0 0, .slice none 0 0] 57 (0, 0)), Row ar qn cr 29 1 (mX tt), Blk b8 (.cells #[.slice aw N1.length cw, .slice aw2 E1.length cw2] 57 (0, 0)), TabN aw N1.length cw (qw.map rawN), OwnN qw, bZ aw2 E1.length cw2 rw', Own rw' E1, Blk b7 (.cells #[.int .i64 kd, .int .i64 nd, .int .u64 idv, .slice ra rn rc] 61 (0, 0)), Blk b5 (.cells #[.slice ag N1.length cg, .slice ag2 E1.length cg2] 57 (0, 0)), TabN ag N1.length cg (qg.map rawN), OwnN qg, bZ ag2 E1.length cg2 rg, Own rg E1, Blk b2 (.cells #[.slice a n c, .slice a2 n2 c2] 57 (0, 0))] → Sl eD All W wa wn wc [] → cd ≠ 0 → (fun (g : List QN × List Ent × List REnt × List NM × (Option Addr × Nat × Nat) × (Option Addr × Nat × Nat) × (Option Addr × Nat × Nat) × Int × Int) w' => St w NoF w' [Blk b10 (.cells #[.slice g.2.2.2.2.1.1 g.2.2.2.2.1.2.1 g.2.2.2.2.1.2.2, .slice g.2.2.2.2.2.1.1 g.2.2.2.2.2.1.2.1 g.2.2.2.2.2.1.2.2] 57 (0, 0)), TabN g.2.2.2.2.1.1 g.2.2.2.2.1.2.1 g.2.2.2.2.1.2.2 (g.1.map rawN), OwnN g.1, bZ g.2.2.2.2.2.1.1 g.2.2.2.2.2.1.2.1 g.2.2.2.2.2.1.2.2 g.2.2.1, Own g.2.2.1 g.2.1, Row ar qn cr 29 1 (mX tt), Blk b8 (.cells #[.slice aw N1.length cw, .slice aw2 E1.length cw2] 57 (0, 0)), TabN aw N1.length cw (qw.map rawN), OwnN qw, bZ aw2 E1.length cw2 rw', Own rw' E1, Blk b7 (.cells #[.int .i64 kd, .int .i64 nd, .int .u64 idv, .slice ra rn rc] 61 (0, 0)), Blk b5 (.cells #[.slice ag N1.length cg, .slice ag2 E1.length cg2] 57 (0, 0)), TabN ag N1.length cg (qg.map rawN), OwnN qg, bZ ag2 E1.length cg2 rg, Own rg E1, Blk b2 (.cells #[.slice a n c, .slice a2 n2 c2] 57 (0, 0))] ∧ GotOk g.1 g.2.1 g.2.2.2.1 g.2.2.2.2.1.2.1 g.2.2.2.2.2.1.2.1 g.2.2.2.2.2.2.2.1 ∧ Sl eD All w' g.2.2.2.2.2.2.1.1 g.2.2.2.2.2.2.1.2.1 g.2.2.2.2.2.2.1.2.2 g.2.2.2.1) ([], [], [], [], (none, 0, 0), (none, 0, 0), (wa, wn, wc), cd, 0) W := fun hs h9 h0 => by
        have hs2 := (((hs.nilOwn).nilRow 139 3).nilN).nilRow 79 4
        exact ⟨hs2.sel [4, 0, 1, 2, 3, 5, 6, 7, 8, 9, 10, 11, 12, 13, 14, 15, 16, 17] (by decide), gotOk_no h0, h9⟩
      by_cases hk0 : kd = 0
      · skip
        cases cb with
        | false =>
          have hEE : ofE N1 E1 tt = 220 := by unfold ofE; rw [hcb]; rfl
          have hE0 : ofE N1 E1 tt ≠ 0 := by rw [hEE]; decide
          repeat' (first | ((apply aL 33; refine JL_o (by exact aA en33 rfl ((gOf_r _ ag ag2 ar N1.length cg E1.length cg2 qn cr N1 E1 tt (slG (qs := qg) hs hgm hgo zmm zmm) (eM (rs := rg) hs zmm zmm) (slTT hs zmm hin) (by omega) (by omega) hsz).mono (fun _ _ r => by have r2 := r.bad hE0; rw [hEE] at r2; exact r2))) rfl rfl ?_; rintro _ _ ⟨rfl, hE⟩; have hs := hs.ext hE; (try simp only [zcc] at hs))) | (apply aH) | ((apply aC); exact zop; first | (exact rfl; exact rfl) | exact rfl) | (apply aQ) | (apply aB) | (apply aN) | (apply aW) | (apply aV) | (apply aU; refine JL_u (by apply aP; exact aK hs rfl rfl rfl) rfl ?_; rintro _ _ ⟨hs, hF⟩) | (apply aG; first | refine aS rfl ob ?_ | refine bD rfl gb ?_))
          refine hcont ([], [], [], [], (none, 0, 0), (none, 0, 0), (none, 0, 0), 220, 0) _ _ (hnil hs (fE _ _ _) (by decide)) zss
        | true =>
          obtain ⟨g1, hcE, hcA⟩ := check_iff.1 hcb
          have hEE : ofE N1 E1 tt = ofC N1 tt := by unfold ofE; rw [hcb]; rfl
          by_cases hCC : ofC N1 tt = 0
          · have hE0 : ofE N1 E1 tt = 0 := hEE.trans hCC
            repeat' (first | ((apply aL 33; refine JL_o (by exact aA en33 rfl ((gOf_r _ ag ag2 ar N1.length cg E1.length cg2 qn cr N1 E1 tt (slG (qs := qg) hs hgm hgo zmm zmm) (eM (rs := rg) hs zmm zmm) (slTT hs zmm hin) (by omega) (by omega) hsz).mono (fun _ _ r => r.ok hE0))) rfl rfl ?_; rintro _ _ ⟨t4, k4, u4, v4, m4, w4, rfl, hk4, qs4, es4, rs4, ⟨hq4, ho4⟩, ⟨he4, hA4⟩, ⟨hl4, hm4, hx4⟩, hf⟩; have hs := hs.fresh hf; (try simp only [zcc] at hs))) | ((apply aL 34; refine JL_o (by exact aA en34 rfl ((nB _ aw ar N1.length cw qn cr N1 tt (slG (qs := qw) hs hwm hwo zmm zmm) (slTT hs zmm hin) (by omega)).mono (fun _ _ r => by rw [hCC] at r; exact r))) rfl rfl ?_; rintro _ _ ⟨a9, n9, c9, rfl, hn9, hE, h9⟩; have hs := hs.ext hE; (try simp only [zcc] at hs))) | (apply aH) | ((apply aC); exact zop; first | (exact rfl; exact rfl) | exact rfl) | (apply aQ) | (apply aB) | (apply aN) | (apply aW) | (apply aU; refine JL_u (by apply aP; exact aK hs rfl rfl rfl) rfl ?_; rintro _ _ ⟨hs, hF⟩) | (apply aG; first | refine aS rfl ob ?_ | refine bB rfl gb ?_))
            have hz4 : szN (ofL N1 tt) := ((hT.bnd (by omega)).of (T := tt) (by omega)).sz (by omega)
            have hg4 : GR (ofL N1 tt) := (of_GR g1 hCC).1
            refine hcont (qs4, es4, rs4, (ofL N1 tt), (t4, k4, u4), (v4, m4, w4), (a9, n9, c9), 0, ((ofn N1 tt : Nat) : Int)) _ _ ⟨hs.sel [4, 0, 1, 2, 3, 5, 6, 7, 8, 9, 10, 11, 12, 13, 14, 15, 16, 17] (by decide), mJ ⟨hq4, ho4⟩ ⟨he4, hA4⟩ ⟨hl4, hm4, hx4⟩ (by show k4 ≤ 40; omega) hz4 hg4, h9⟩ zss
          · have hE0 : ofE N1 E1 tt ≠ 0 := by rw [hEE]; exact hCC
            have hNO := of_no hCC
            have hNO1 : ((ofn N1 tt : Nat) : Int) = 0 := by rw [hNO.1]; rfl
            repeat' (first | ((apply aL 33; refine JL_o (by exact aA en33 rfl ((gOf_r _ ag ag2 ar N1.length cg E1.length cg2 qn cr N1 E1 tt (slG (qs := qg) hs hgm hgo zmm zmm) (eM (rs := rg) hs zmm zmm) (slTT hs zmm hin) (by omega) (by omega) hsz).mono (fun _ _ r => by have r2 := r.bad hE0; rw [hEE] at r2; exact r2))) rfl rfl ?_; rintro _ _ ⟨rfl, hE⟩; have hs := hs.ext hE; (try simp only [zcc] at hs))) | ((apply aL 34; refine JL_o (by exact aA en34 rfl ((nB _ aw ar N1.length cw qn cr N1 tt (slG (qs := qw) hs hwm hwo zmm zmm) (slTT hs zmm hin) (by omega)).mono (fun _ _ r => by rw [hNO1, hNO.2] at r; exact r))) rfl rfl ?_; rintro _ _ ⟨a9, n9, c9, rfl, hn9, hE, h9⟩; have hs := hs.ext hE; (try simp only [zcc] at hs))) | (apply aH) | ((apply aC); exact zop; first | (exact rfl; exact rfl) | exact rfl) | (apply aQ) | (apply aB) | (apply aN) | (apply aW) | (apply aU; refine JL_u (by apply aP; exact aK hs rfl rfl rfl) rfl ?_; rintro _ _ ⟨hs, hF⟩) | (apply aG; first | refine aS rfl ob ?_ | refine bB rfl gb ?_))
            refine hcont ([], [], [], [], (none, 0, 0), (none, 0, 0), (a9, n9, c9), ofC N1 tt, 0) _ _ (hnil hs h9 hCC) zss
      by_cases hk1 : kd = 1
      · have hk1b : decide (kd = 1) = true := decide_eq_true hk1
        cases cb with
        | false =>
          have hEE : goE N1 E1 nd idv true = 220 := by unfold goE; rw [hcb]; rfl
          have hE0 : goE N1 E1 nd idv true ≠ 0 := by rw [hEE]; decide
          repeat' (first | ((apply aL 35; refine JL_o (by exact aA en35 rfl ((pK _ ag ag2 N1.length cg E1.length cg2 N1 E1 nd idv (slG (qs := qg) hs hgm hgo zmm zmm) (eM (rs := rg) hs zmm zmm) (by omega) (by omega) hsz hnd hid).mono (fun _ _ r => by have r2 := r.bad hE0; rw [hEE] at r2; exact r2))) rfl rfl ?_; rintro _ _ ⟨rfl, hE⟩; have hs := hs.ext hE; (try simp only [zcc] at hs))) | (apply aH) | ((apply aC); exact zop; first | (exact rfl; exact rfl) | exact rfl) | (apply aQ) | (apply aB) | (apply aN) | (apply aW) | (apply aV) | (apply aU; refine JL_u (by apply aP; exact aK hs rfl rfl rfl) rfl ?_; rintro _ _ ⟨hs, hF⟩) | (apply aG; first | refine aS rfl ob ?_ | refine aZ rfl ob ?_ | refine bD rfl gb ?_))
          refine hcont ([], [], [], [], (none, 0, 0), (none, 0, 0), (none, 0, 0), 220, 0) _ _ (hnil hs (fE _ _ _) (by decide)) zss
        | true =>
          obtain ⟨g1, hcE, hcA⟩ := check_iff.1 hcb
          have hEE : goE N1 E1 nd idv true = goC N1 nd idv true := by unfold goE; rw [hcb]; rfl
          by_cases hCC : goC N1 nd idv true = 0
          · have hE0 : goE N1 E1 nd idv true = 0 := hEE.trans hCC
            repeat' (first | ((apply aL 35; refine JL_o (by exact aA en35 rfl ((pK _ ag ag2 N1.length cg E1.length cg2 N1 E1 nd idv (slG (qs := qg) hs hgm hgo zmm zmm) (eM (rs := rg) hs zmm zmm) (by omega) (by omega) hsz hnd hid).mono (fun _ _ r => r.ok hE0))) rfl rfl ?_; rintro _ _ ⟨t4, k4, u4, v4, m4, w4, rfl, hk4, qs4, es4, rs4, ⟨hq4, ho4⟩, ⟨he4, hA4⟩, ⟨hl4, hm4, hx4⟩, hf⟩; have hs := hs.fresh hf; (try simp only [zcc] at hs))) | ((apply aL 37; refine JL_o (by exact aA en37 rfl ((show Ret Tryz.prog 37 #[.slice aw N1.length cw, .int .i64 nd, .int .u64 idv, .bool (decide (kd = 1))] _ _ from by rw [hk1b]; exact goPR_r _ aw N1.length cw N1 nd idv (slG (qs := qw) hs hwm hwo zmm zmm) (by omega) hsz g1 hnd hid).mono (fun _ _ r => by rw [hCC] at r; exact r))) rfl rfl ?_; rintro _ _ ⟨a9, n9, c9, rfl, hE, h9⟩; have hs := hs.ext hE; (try simp only [zcc] at hs))) | (apply aH) | ((apply aC); exact zop; first | (exact rfl; exact rfl) | exact rfl) | (apply aQ) | (apply aB) | (apply aN) | (apply aW) | (apply aV) | (apply aU; refine JL_u (by apply aP; exact aK hs rfl rfl rfl) rfl ?_; rintro _ _ ⟨hs, hF⟩) | (apply aG; first | refine aS rfl ob ?_ | refine aZ rfl ob ?_ | refine bB rfl gb ?_))
            have hz4 : szN (goL N1 nd idv true) := go_sz hT (by omega) nd idv true
            have hg4 : GR (goL N1 nd idv true) := go_GR g1 hCC
            refine hcont (qs4, es4, rs4, (goL N1 nd idv true), (t4, k4, u4), (v4, m4, w4), (a9, n9, c9), 0, (gon N1 nd idv true)) _ _ ⟨hs.sel [4, 0, 1, 2, 3, 5, 6, 7, 8, 9, 10, 11, 12, 13, 14, 15, 16, 17] (by decide), mJ ⟨hq4, ho4⟩ ⟨he4, hA4⟩ ⟨hl4, hm4, hx4⟩ (by show k4 ≤ 40; omega) hz4 hg4, h9⟩ zss
          · have hE0 : goE N1 E1 nd idv true ≠ 0 := by rw [hEE]; exact hCC
            have hNO := go_no hCC
            repeat' (first | ((apply aL 35; refine JL_o (by exact aA en35 rfl ((pK _ ag ag2 N1.length cg E1.length cg2 N1 E1 nd idv (slG (qs := qg) hs hgm hgo zmm zmm) (eM (rs := rg) hs zmm zmm) (by omega) (by omega) hsz hnd hid).mono (fun _ _ r => by have r2 := r.bad hE0; rw [hEE] at r2; exact r2))) rfl rfl ?_; rintro _ _ ⟨rfl, hE⟩; have hs := hs.ext hE; (try simp only [zcc] at hs))) | ((apply aL 37; refine JL_o (by exact aA en37 rfl ((show Ret Tryz.prog 37 #[.slice aw N1.length cw, .int .i64 nd, .int .u64 idv, .bool (decide (kd = 1))] _ _ from by rw [hk1b]; exact goPR_r _ aw N1.length cw N1 nd idv (slG (qs := qw) hs hwm hwo zmm zmm) (by omega) hsz g1 hnd hid).mono (fun _ _ r => by rw [hNO.1, hNO.2] at r; exact r))) rfl rfl ?_; rintro _ _ ⟨a9, n9, c9, rfl, hE, h9⟩; have hs := hs.ext hE; (try simp only [zcc] at hs))) | (apply aH) | ((apply aC); exact zop; first | (exact rfl; exact rfl) | exact rfl) | (apply aQ) | (apply aB) | (apply aN) | (apply aW) | (apply aV) | (apply aU; refine JL_u (by apply aP; exact aK hs rfl rfl rfl) rfl ?_; rintro _ _ ⟨hs, hF⟩) | (apply aG; first | refine aS rfl ob ?_ | refine aZ rfl ob ?_ | refine bB rfl gb ?_))
            refine hcont ([], [], [], [], (none, 0, 0), (none, 0, 0), (a9, n9, c9), goC N1 nd idv true, 0) _ _ (hnil hs h9 hCC) zss
      by_cases hk2 : kd = 2
      · have hk1b : decide (kd = 1) = false := decide_eq_false hk1
        cases cb with
        | false =>
          have hEE : goE N1 E1 nd idv false = 220 := by unfold goE; rw [hcb]; rfl
          have hE0 : goE N1 E1 nd idv false ≠ 0 := by rw [hEE]; decide
          repeat' (first | ((apply aL 36; refine JL_o (by exact aA en36 rfl ((sG _ ag ag2 N1.length cg E1.length cg2 N1 E1 nd idv (slG (qs := qg) hs hgm hgo zmm zmm) (eM (rs := rg) hs zmm zmm) (by omega) (by omega) hsz hnd hid).mono (fun _ _ r => by have r2 := r.bad hE0; rw [hEE] at r2; exact r2))) rfl rfl ?_; rintro _ _ ⟨rfl, hE⟩; have hs := hs.ext hE; (try simp only [zcc] at hs))) | (apply aH) | ((apply aC); exact zop; first | (exact rfl; exact rfl) | exact rfl) | (apply aQ) | (apply aB) | (apply aN) | (apply aW) | (apply aV) | (apply aU; refine JL_u (by apply aP; exact aK hs rfl rfl rfl) rfl ?_; rintro _ _ ⟨hs, hF⟩) | (apply aG; first | refine aS rfl ob ?_ | refine aZ rfl ob ?_ | refine bD rfl gb ?_))
          refine hcont ([], [], [], [], (none, 0, 0), (none, 0, 0), (none, 0, 0), 220, 0) _ _ (hnil hs (fE _ _ _) (by decide)) zss
        | true =>
          obtain ⟨g1, hcE, hcA⟩ := check_iff.1 hcb
          have hEE : goE N1 E1 nd idv false = goC N1 nd idv false := by unfold goE; rw [hcb]; rfl
          by_cases hCC : goC N1 nd idv false = 0
          · have hE0 : goE N1 E1 nd idv false = 0 := hEE.trans hCC
            repeat' (first | ((apply aL 36; refine JL_o (by exact aA en36 rfl ((sG _ ag ag2 N1.length cg E1.length cg2 N1 E1 nd idv (slG (qs := qg) hs hgm hgo zmm zmm) (eM (rs := rg) hs zmm zmm) (by omega) (by omega) hsz hnd hid).mono (fun _ _ r => r.ok hE0))) rfl rfl ?_; rintro _ _ ⟨t4, k4, u4, v4, m4, w4, rfl, hk4, qs4, es4, rs4, ⟨hq4, ho4⟩, ⟨he4, hA4⟩, ⟨hl4, hm4, hx4⟩, hf⟩; have hs := hs.fresh hf; (try simp only [zcc] at hs))) | ((apply aL 37; refine JL_o (by exact aA en37 rfl ((show Ret Tryz.prog 37 #[.slice aw N1.length cw, .int .i64 nd, .int .u64 idv, .bool (decide (kd = 1))] _ _ from by rw [hk1b]; exact goLR_r _ aw N1.length cw N1 nd idv (slG (qs := qw) hs hwm hwo zmm zmm) (by omega) hsz g1 hnd hid).mono (fun _ _ r => by rw [hCC] at r; exact r))) rfl rfl ?_; rintro _ _ ⟨a9, n9, c9, rfl, hE, h9⟩; have hs := hs.ext hE; (try simp only [zcc] at hs))) | (apply aH) | ((apply aC); exact zop; first | (exact rfl; exact rfl) | exact rfl) | (apply aQ) | (apply aB) | (apply aN) | (apply aW) | (apply aU; refine JL_u (by apply aP; exact aK hs rfl rfl rfl) rfl ?_; rintro _ _ ⟨hs, hF⟩) | (apply aG; first | refine aS rfl ob ?_ | refine aZ rfl ob ?_ | refine bB rfl gb ?_))
            have hz4 : szN (goL N1 nd idv false) := go_sz hT (by omega) nd idv false
            have hg4 : GR (goL N1 nd idv false) := go_GR g1 hCC
            refine hcont (qs4, es4, rs4, (goL N1 nd idv false), (t4, k4, u4), (v4, m4, w4), (a9, n9, c9), 0, (gon N1 nd idv false)) _ _ ⟨hs.sel [4, 0, 1, 2, 3, 5, 6, 7, 8, 9, 10, 11, 12, 13, 14, 15, 16, 17] (by decide), mJ ⟨hq4, ho4⟩ ⟨he4, hA4⟩ ⟨hl4, hm4, hx4⟩ (by show k4 ≤ 40; omega) hz4 hg4, h9⟩ zss
          · have hE0 : goE N1 E1 nd idv false ≠ 0 := by rw [hEE]; exact hCC
            have hNO := go_no hCC
            repeat' (first | ((apply aL 36; refine JL_o (by exact aA en36 rfl ((sG _ ag ag2 N1.length cg E1.length cg2 N1 E1 nd idv (slG (qs := qg) hs hgm hgo zmm zmm) (eM (rs := rg) hs zmm zmm) (by omega) (by omega) hsz hnd hid).mono (fun _ _ r => by have r2 := r.bad hE0; rw [hEE] at r2; exact r2))) rfl rfl ?_; rintro _ _ ⟨rfl, hE⟩; have hs := hs.ext hE; (try simp only [zcc] at hs))) | ((apply aL 37; refine JL_o (by exact aA en37 rfl ((show Ret Tryz.prog 37 #[.slice aw N1.length cw, .int .i64 nd, .int .u64 idv, .bool (decide (kd = 1))] _ _ from by rw [hk1b]; exact goLR_r _ aw N1.length cw N1 nd idv (slG (qs := qw) hs hwm hwo zmm zmm) (by omega) hsz g1 hnd hid).mono (fun _ _ r => by rw [hNO.1, hNO.2] at r; exact r))) rfl rfl ?_; rintro _ _ ⟨a9, n9, c9, rfl, hE, h9⟩; have hs := hs.ext hE; (try simp only [zcc] at hs))) | (apply aH) | ((apply aC); exact zop; first | (exact rfl; exact rfl) | exact rfl) | (apply aQ) | (apply aB) | (apply aN) | (apply aW) | (apply aU; refine JL_u (by apply aP; exact aK hs rfl rfl rfl) rfl ?_; rintro _ _ ⟨hs, hF⟩) | (apply aG; first | refine aS rfl ob ?_ | refine aZ rfl ob ?_ | refine bB rfl gb ?_))
            refine hcont ([], [], [], [], (none, 0, 0), (none, 0, 0), (a9, n9, c9), goC N1 nd idv false, 0) _ _ (hnil hs h9 hCC) zss
      cases cb with
      | false =>
        have hEE : drE N1 E1 nd = 220 := by unfold drE; rw [hcb]; rfl
        have hE0 : drE N1 E1 nd ≠ 0 := by rw [hEE]; decide
        repeat' (first | ((apply aL 38; refine JL_o (by exact aA en38 rfl ((sI _ ag ag2 N1.length cg E1.length cg2 N1 E1 nd (slG (qs := qg) hs hgm hgo zmm zmm) (eM (rs := rg) hs zmm zmm) (by omega) (by omega) hsz hnd).mono (fun _ _ r => by have r2 := r.resolve_right (fun e => hE0 e.1); rw [hEE] at r2; exact r2))) rfl rfl ?_; rintro _ _ ⟨_, rfl, hE⟩; have hs := hs.ext hE; (try simp only [zcc] at hs))) | (apply aH) | ((apply aC); exact zop; first | (exact rfl; exact rfl) | exact rfl) | (apply aQ) | (apply aB) | (apply aN) | (apply aW) | (apply aV) | (apply aU; refine JL_u (by apply aP; exact aK hs rfl rfl rfl) rfl ?_; rintro _ _ ⟨hs, hF⟩) | (apply aG; refine aZ rfl ob ?_))
        refine hcont ([], [], [], [], (none, 0, 0), (none, 0, 0), (none, 0, 0), 220, 0) _ _ (hnil hs (fE _ _ _) (by decide)) zss
      | true =>
        obtain ⟨g1, hcE, hcA⟩ := check_iff.1 hcb
        have hEE : drE N1 E1 nd = drC N1 nd := by unfold drE; rw [hcb]; rfl
        by_cases hCC : drC N1 nd = 0
        · have hE0 : drE N1 E1 nd = 0 := hEE.trans hCC
          have hE0 : ¬ (drE N1 E1 nd ≠ 0) := fun e => e hE0
          repeat' (first | ((apply aL 38; refine JL_o (by exact aA en38 rfl ((sI _ ag ag2 N1.length cg E1.length cg2 N1 E1 nd (slG (qs := qg) hs hgm hgo zmm zmm) (eM (rs := rg) hs zmm zmm) (by omega) (by omega) hsz hnd).mono (fun _ _ r => r.resolve_left (fun e => hE0 e.1)))) rfl rfl ?_; rintro _ _ ⟨_, t4, k4, u4, v4, m4, w4, rfl, hk4, qs4, es4, rs4, ⟨hq4, ho4⟩, ⟨he4, hA4⟩, ⟨hl4, hm4, hx4⟩, hf⟩; have hs := hs.fresh hf; (try simp only [zcc] at hs))) | ((apply aL 39; refine JL_o (by exact aA en39 rfl ((uH _ aw N1.length cw N1 nd (slG (qs := qw) hs hwm hwo zmm zmm) (by omega) hsz g1 hnd).mono (fun _ _ r => by rw [hCC] at r; exact r))) rfl rfl ?_; rintro _ _ ⟨a9, n9, c9, rfl, hn9, hE, h9⟩; have hs := hs.ext hE; (try simp only [zcc] at hs))) | (apply aH) | ((apply aC); exact zop; first | (exact rfl; exact rfl) | exact rfl) | (apply aQ) | (apply aB) | (apply aN) | (apply aW) | (apply aU; refine JL_u (by apply aP; exact aK hs rfl rfl rfl) rfl ?_; rintro _ _ ⟨hs, hF⟩) | (apply aG; first | refine aZ rfl ob ?_ | refine bB rfl gb ?_))
          have hz4 : szN (drL N1 nd) := (aBm hT nd).sz (by omega)
          have hg4 : GR (drL N1 nd) := dr_GR g1 hCC
          refine hcont (qs4, es4, rs4, (drL N1 nd), (t4, k4, u4), (v4, m4, w4), (a9, n9, c9), 0, 0) _ _ ⟨hs.sel [4, 0, 1, 2, 3, 5, 6, 7, 8, 9, 10, 11, 12, 13, 14, 15, 16, 17] (by decide), mJ ⟨hq4, ho4⟩ ⟨he4, hA4⟩ ⟨hl4, hm4, hx4⟩ (by show k4 ≤ 40; omega) hz4 hg4, h9⟩ zss
        · have hE0 : drE N1 E1 nd ≠ 0 := by rw [hEE]; exact hCC
          have hNO := dr_no hCC
          repeat' (first | ((apply aL 38; refine JL_o (by exact aA en38 rfl ((sI _ ag ag2 N1.length cg E1.length cg2 N1 E1 nd (slG (qs := qg) hs hgm hgo zmm zmm) (eM (rs := rg) hs zmm zmm) (by omega) (by omega) hsz hnd).mono (fun _ _ r => by have r2 := r.resolve_right (fun e => hE0 e.1); rw [hEE] at r2; exact r2))) rfl rfl ?_; rintro _ _ ⟨_, rfl, hE⟩; have hs := hs.ext hE; (try simp only [zcc] at hs))) | ((apply aL 39; refine JL_o (by exact aA en39 rfl ((uH _ aw N1.length cw N1 nd (slG (qs := qw) hs hwm hwo zmm zmm) (by omega) hsz g1 hnd).mono (fun _ _ r => by rw [hNO] at r; exact r))) rfl rfl ?_; rintro _ _ ⟨a9, n9, c9, rfl, hn9, hE, h9⟩; have hs := hs.ext hE; (try simp only [zcc] at hs))) | (apply aH) | ((apply aC); exact zop; first | (exact rfl; exact rfl) | exact rfl) | (apply aQ) | (apply aB) | (apply aN) | (apply aW) | (apply aU; refine JL_u (by apply aP; exact aK hs rfl rfl rfl) rfl ?_; rintro _ _ ⟨hs, hF⟩) | (apply aG; first | refine aZ rfl ob ?_ | refine bB rfl gb ?_))
          refine hcont ([], [], [], [], (none, 0, 0), (none, 0, 0), (a9, n9, c9), drC N1 nd, 0) _ _ (hnil hs h9 hCC) zss
    · refine oQ ?_
      rintro ⟨qs', es', rs', N', ⟨a', m', c'⟩, ⟨a2', m2', c2'⟩, ⟨wa, wm, wc⟩, cd, nn⟩ w3 ⟨hs1, hok, h9⟩
      dsimp only at hs1 hok h9 ⊢
      obtain ⟨⟨hqm', hqo'⟩, ⟨hl', hl2', hm40, hm2x⟩, hz', hsay, hck⟩ := hok
      have hs : St w NoF w3 [_, _, _, _, _, _, _, _, _, _, _, _, _, _, _, _, _, _] := hs1
      have h9l := h9.len
      have hee : ¬ (cd ≠ cd) := fun e => e rfl
      have hnn : ¬ (nn ≠ nn) := fun e => e rfl
      by_cases hsm' : gH N' = N' ∧ iK es' = es'
      rotate_left
      · have hsmF : (decide (gH N' = N') && decide (iK es' = es')) = false := by
          by_cases h1 : gH N' = N'
          · rw [decide_eq_true h1, decide_eq_false (fun h2 => hsm' ⟨h1, h2⟩)]; rfl
          · rw [decide_eq_false h1]; rfl
        clear ih
        repeat' (first | ((apply bE 40; refine bM rfl gb (by exact aA en40 rfl ((wW _ a' a2' wa m' c' m2' c2' wm wc N' N' es' (slG (qs := qs') hs hqm' hqo' zmm zmm) (eM (rs := rs') hs zmm zmm) h9 (by omega) hm2x).mono (fun _ _ r => by rw [hsay] at r; exact r))) rfl rfl ?_; rintro _ _ ⟨rfl, hE⟩; have hs := hs.ext hE; (try simp only [zcc] at hs))) | ((apply aL 31; refine JL_o (by exact aA en31 rfl (kM _ a' a2' m' c' m2' c2' N' es' (slG (qs := qs') hs hqm' hqo' zmm zmm) (eM (rs := rs') hs zmm zmm))) rfl rfl ?_; rintro _ _ ⟨q7, r7, a7, a8, c7, c8, ⟨hm7, ho7⟩, rfl, hf⟩; have hs := hs.fresh hf; (try simp only [zcc] at hs))) | ((apply aL 41; refine JL_o (by exact aA en41 rfl ((sF _ a7 a8 a' a2' (gH N').length c7 (iK es').length c8 m' c' m2' c2' (gH N') N' (iK es') es' (slG (qs := q7) hs hm7 ho7 zmm zmm) (eM (rs := r7) hs zmm zmm) (slG (qs := qs') hs hqm' hqo' zmm zmm) (eM (rs := rs') hs zmm zmm) (Nat.le_trans (gZ _) (by omega))).mono (fun _ _ r => by rw [hsmF] at r; exact r))) rfl rfl ?_; rintro _ _ ⟨rfl, hE⟩; have hs := hs.ext hE; (try simp only [zcc] at hs))) | (apply aH) | ((first | (apply aC) | (apply bA; exact rfl; exact gb)); exact zop; first | (exact rfl; exact rfl) | exact rfl) | (apply aQ) | (apply aB) | (apply aV) | (apply aF (t := 17); refine JL_o (by apply aR; exact aJ hs) rfl rfl ?_; rintro _ _ ⟨b17, rfl, hb17, hs, hE⟩) | (apply aU; refine JL_u (by apply aP; exact aK hs rfl rfl rfl) rfl ?_; rintro _ _ ⟨hs, hF⟩) | (apply aG; first | refine bB rfl gb ?_ | refine bD rfl gb ?_))
        refine aM Tryz.func5 rfl (.tmp rfl .nil) ⟨rfl, hs.frm.ext⟩
      obtain ⟨hsN, hsE⟩ := hsm'
      have hsmT : (decide (gH N' = N') && decide (iK es' = es')) = true := by rw [decide_eq_true hsN, decide_eq_true hsE]; rfl
      have hsmG : (decide (N1 = N1) && decide (E1 = E1)) = true := by rw [decide_eq_true rfl, decide_eq_true rfl]; rfl
      have htT : decide (tt = tt) = true := decide_eq_true rfl
      have hmk : szN (qs'.map fO) := by rw [hqm']; exact hz'
      have hqn' : qs'.length = m' := by have := congrArg List.length hqm'; rw [List.length_map] at this; omega
      have hfin : ∀ (b : Prop), b → b := fun _ h => h
      repeat' (first | ((apply aj_condt 157; refine hold ?_)) | ((apply bE 40; refine bM rfl gb (by exact aA en40 rfl ((wW _ a' a2' wa m' c' m2' c2' wm wc N' N' es' (slG (qs := qs') hs hqm' hqo' zmm zmm) (eM (rs := rs') hs zmm zmm) h9 (by omega) hm2x).mono (fun _ _ r => by rw [hsay] at r; exact r))) rfl rfl ?_; rintro _ _ ⟨rfl, hE⟩; have hs := hs.ext hE; (try simp only [zcc] at hs))) | ((apply aL 31; refine JL_o (by exact aA en31 rfl ((kM _ a' a2' m' c' m2' c2' N' es' (slG (qs := qs') hs hqm' hqo' zmm zmm) (eM (rs := rs') hs zmm zmm)).mono (fun _ _ r => by rw [hsN, hsE] at r; exact r))) rfl rfl ?_; rintro _ _ ⟨q7, r7, a7, a8, c7, c8, ⟨hm7, ho7⟩, rfl, hf⟩; have hs := hs.fresh hf; (try simp only [zcc] at hs))) | ((apply aL 41; refine JL_o (by exact aA en41 rfl ((sF _ a7 a8 a' a2' N'.length c7 es'.length c8 m' c' m2' c2' N' N' es' es' (slG (qs := q7) hs hm7 ho7 zmm zmm) (eM (rs := r7) hs zmm zmm) (slG (qs := qs') hs hqm' hqo' zmm zmm) (eM (rs := rs') hs zmm zmm) (by omega)).mono (fun _ _ r => by rw [decide_eq_true rfl, decide_eq_true rfl] at r; exact r))) rfl rfl ?_; rintro _ _ ⟨rfl, hE⟩; have hs := hs.ext hE; (try simp only [zcc] at hs))) | ((apply aF (t := 141); have hs2 : St w NoF _ ([TabN a' m' c' (qs'.map rawN), OwnN qs', bZ a2' m2' c2' rs', Own rs' es'] ++ [_, _, _, _, _, _, _, _, _, _, _, _, _, _, _, _, _, _, _]) := hs.sel [6, 7, 8, 9, 0, 1, 2, 3, 4, 5, 10, 11, 12, 13, 14, 15, 16, 17, 18, 19, 20, 21, 22] (by decide); refine JL_o (aA en42 rfl (aA7 _ a' a2' m' c' m2' c2' qs' rs' es' (St.held (A := [_, _, _, _]) hs2) hqo' hqn' (xP (hs.row a2' m2' c2')) (by omega) hm2x hmk)) rfl rfl ?_; rintro _ _ ht; have hs := St.take (A := [_, _, _, _]) (A' := []) hs2 ht; simp only [List.nil_append] at hs)) | ((apply aL 41; refine JL_o (by exact aA en41 rfl ((sF _ ag ag2 aw aw2 N1.length cg E1.length cg2 N1.length cw E1.length cw2 N1 N1 E1 E1 (slG (qs := qg) hs hgm hgo zmm zmm) (eM (rs := rg) hs zmm zmm) (slG (qs := qw) hs hwm hwo zmm zmm) (eM (rs := rw') hs zmm zmm) (by omega)).mono (fun _ _ r => by rw [hsmG] at r; exact r))) rfl rfl ?_; rintro _ _ ⟨rfl, hE⟩; have hs := hs.ext hE; (try simp only [zcc] at hs))) | ((apply bE 43; refine bM rfl gb (by exact aA en43 rfl (dY _ ar ra qn cr qn rc tt tt (slTT hs zmm hin) (mcut.st hs))) rfl rfl ?_; rintro _ _ ⟨rfl, hE⟩; rw [htT]; have hs := hs.ext hE; (try simp only [zcc] at hs))) | (apply aH) | ((first | (apply aC) | (apply bA; exact rfl; exact gb)); (first | (apply dA; exact dL (q := qn) rfl rfl (by omega) (by omega) aI) | exact zop); first | (exact rfl; exact rfl) | exact rfl) | (apply aQ) | (apply aB) | (apply aV) | (apply aF (t := 17); refine JL_o (by apply aR; exact aJ hs) rfl rfl ?_; rintro _ _ ⟨b17, rfl, hb17, hs, hE⟩) | (apply aU; refine JL_u (by apply aP; exact aK hs rfl rfl rfl) rfl ?_; rintro _ _ ⟨hs, hF⟩) | (apply aG; refine bD rfl gb ?_))
      refine oQ ?_
      by_cases hc0 : cd = 0
      · repeat' (first | (apply aH) | ((apply aC); exact zop; first | (exact rfl; exact rfl) | exact rfl) | (apply aB) | (apply aW) | (apply aU; refine JL_u (by apply aP; exact aK hs rfl rfl rfl) rfl ?_; rintro _ _ ⟨hs, hF⟩) | (apply aG; refine aS rfl ob ?_))
        refine ih (k + 1, N', es', q7, r7, a7, c7, a8, c8) _ _ ⟨hs.sel [13, 1, 2, 3, 4, 18] (by decide), ⟨hm7, ho7⟩, ⟨hsN, hsE⟩, fun _ => hck hc0, hlt, by dsimp only; omega⟩ (by dsimp only; omega) zss
      · repeat' (first | (apply aH) | ((apply aC); exact zop; first | (exact rfl; exact rfl) | exact rfl) | (apply aB) | (apply aW) | (apply aV) | (apply aG; refine aZ rfl ob ?_))
        refine ih (k + 1, N1, E1, qg, rg, ag, cg, ag2, cg2) _ _ ⟨hs.sel [13, 14, 15, 16, 17, 18] (by decide), ⟨hgm, hgo⟩, ⟨hNi, hEi⟩, hinv, hlt, by dsimp only; omega⟩ (by dsimp only; omega) zss
end Go.Eng
end
