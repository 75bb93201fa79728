/- The texts G18, G19, G21, G20, G22, G23, G24, G25, G26, joined: what of them serves. -/
import Derived.Test.YtcoldgkhlkjjmaaGreatU5
section
namespace Go.Eng
open Go.Proofs
set_option linter.unusedSimpArgs false
set_option linter.unusedVariables false
theorem kK {N : List NM} (h : tU N = false) : kV N = false := by unfold kV; rw [h]; rfl
theorem iT {N : List NM} {k : Nat} (hk : k < N.length) (h : oK N k = false) : kV N = false := by
  unfold kV
  rw [show (List.range N.length).all (oK N) = false from List.all_eq_false.2 ⟨k, List.mem_range.2 hk, by rw [h]; decide⟩]
  simp
theorem usedL_at (N : List NM) (k : Nat) : (uN N (k + 1)).map (fun (k : Nat) => (k : Int) + 1) = (uN N k).map (fun (k : Nat) => (k : Int) + 1) ++ if (N.getD k n0).1 then [(k : Int) + 1] else [] := by
  rw [pA, List.map_append]
  by_cases h : (N.getD k n0).1 = true
  · rw [if_pos h, if_pos h]; rfl
  · rw [if_neg h, if_neg h]; rfl
def FromN (rs : List RNd) (N : List NM) (p : ZE) : Prop := ∃ (k : Nat) (r : RNd) (y : NM), rs[k]? = some r ∧ N[k]? = some y ∧ p = ((1, r.2.1, (k : Int) + 1), (1, y.2.1, (k : Int) + 1))
theorem FromN.rel {R : Nat → Prop} {w : World} {rs : List RNd} {N : List NM} {p : ZE} (h : FromN rs N p) (hm : MeanV mNode R w rs N) : mEnt.rel R w p.1 p.2 := by
  obtain ⟨k, r, y, h1, h2, rfl⟩ := h
  obtain ⟨_, f2, _⟩ := kU (hm.2 k r y h1 h2)
  exact ⟨rfl, f2, rfl⟩
theorem FromN.ok {rs : List RNd} {N : List NM} {p : ZE} (h : FromN rs N p) (hn : rs.length ≤ 1000000) : okE p.1 := by
  obtain ⟨k, r, y, h1, h2, rfl⟩ := h
  have := (List.getElem?_eq_some_iff.1 h1).1
  refine ⟨?_, trivial, ?_⟩
  · show inK .i64 1
    unfold inK; simp only [IntKind.min, IntKind.max, IntKind.bits, IntKind.signed]; omega
  · show inK .i64 ((k : Int) + 1)
    unfold inK; simp only [IntKind.min, IntKind.max, IntKind.bits, IntKind.signed]; omega
theorem nQ {R : Nat → Prop} {w : World} {rs : List RNd} {N : List NM} {zs : List ZE} (h : ∀ p ∈ zs, FromN rs N p) (hm : MeanV mNode R w rs N) : MeanV mEnt R w (zs.map Prod.fst) (zs.map Prod.snd) := .of_all (fun p hp => (h p hp).rel hm)
theorem sE {rs : List RNd} {N : List NM} {zs : List ZE} (h : ∀ p ∈ zs, FromN rs N p) (hn : rs.length ≤ 1000000) : ∀ r ∈ zs.map Prod.fst, okE r := fun r hr => by
  obtain ⟨p, hp, rfl⟩ := List.mem_map.1 hr
  exact (h p hp).ok hn
attribute [local irreducible] Hold J JL JD JX JXat OpR OpG Ret RetV Is Blk Row
set_option maxRecDepth 100000
set_option maxHeartbeats 2000000
theorem zC (w : World) (a : Option Addr) (n c : Nat) (N : List NM) (h : Sl fR All w a n c N) (hn : n ≤ 1000000) :
    Ret Tryz.prog 53 #[.slice a n c] w fun v w' => ∃ a' c', v = .slice a' (oH N).length c' ∧ Fresh w w' [RowI a' (oH N).length c' (oH N)] := by
  refine cE (l := [_]) Tryz.func53 rfl Tryz.ntmps53 (by simp) ?_
  have hs := St.init w
  have hl := h.len
  obtain ⟨rs, hr, hm⟩ := Sl.raw (D := jC) h
  repeat' (first | (apply aT) | ((apply aM); (first | (apply aR; exact aH rfl aA) | (apply aC; exact aB rfl aA) | (apply bM; exact bU rfl aA)); first | (exact rfl; exact rfl) | exact rfl) | (apply bD) | (apply aG) | (apply bA))
  have hs := hs.nilRow 3 1
  refine cZ (α := Nat × List Int × Nat × Option Addr × Nat) [(6, _), (7, _)] (fun g => [(3, .slice g.2.2.2.1 g.2.2.1 g.2.2.2.2), (8, .int .i64 g.1)])
    (fun g w' => St w NoF w' [RowI g.2.2.2.1 g.2.2.1 g.2.2.2.2 g.2.1] ∧ g.1 ≤ n ∧ g.2.1 = (uN N g.1).map (fun (k : Nat) => (k : Int) + 1) ∧ g.2.2.1 = g.2.1.length ∧ g.2.2.1 ≤ g.1)
    (fun g => n - g.1) (0, [], 0, none, 0) ⟨hs.sel [0] (by decide), Nat.zero_le _, rfl, rfl, Nat.le_refl _⟩ zss ?_
  rintro ⟨k, ys, m, a5, c5⟩ w2 ⟨hs1, hk, hys, hml, hmk⟩ ih
  dsimp only at hs1 hk hys hml hmk ih ⊢
  by_cases hlt : k < n
  · obtain ⟨p, o, rfl⟩ := hr.sl.addr (by omega)
    have hs : St w NoF w2 [_] := hs1
    have hy : N[k]? = some (N[k]'(by omega)) := List.getElem?_eq_getElem (by omega)
    obtain ⟨y, hyd⟩ : ∃ y, y = N[k]'(by omega) := ⟨_, rfl⟩
    rw [← hyd] at hy
    obtain ⟨r, hrx, hrel⟩ := hm.get hy
    obtain ⟨f1, f2, f3, f4⟩ := kU hrel
    have hat := usedL_at N k
    rw [dN hy, ← hys, ← f1] at hat
    obtain ⟨rb, hrb⟩ : ∃ b, r.1 = b := ⟨_, rfl⟩
    rw [hrb] at hat
    cases rb with
    | false =>
      rw [if_neg (by decide), List.append_nil] at hat
      repeat' (first | (apply aT) | ((apply aM); (first | (apply aW; first | exact aU hs rfl rfl aA | exact aI hs rfl aA | exact aZ (i := k) (hr.st hs) hrx rfl rfl aA) | (apply aR; exact aH rfl aA) | (apply aC; exact aB rfl aA) | (apply aQ; exact aK rfl rfl aA) | (apply cJ; exact bT rfl rfl (by omega) (by first | (simp only [Int.reduceAdd]; exact rfl) | exact rfl) aA) | (apply aL; exact aO rfl rfl rfl aA) | (apply aN; exact aJ rfl rfl (by omega) (by omega) aA)); first | (exact rfl; exact rfl) | exact rfl) | (apply bD) | (apply aG) | (apply bA) | (apply bP) | (apply bH) | (apply aP (t := 5); refine JL_o (by apply bB; exact aV hs) rfl rfl ?_; rintro _ _ ⟨b5, rfl, hb5, hs, hE⟩) | (apply bK; refine JL_u (by apply bE; exact aX hs rfl rfl rfl) rfl ?_; rintro _ _ ⟨hs, hF⟩) | (apply aS; first | refine bF rfl ob ?_ | refine bW rfl gb ?_))
      refine ih (k + 1, ys, m, a5, c5) _ _ ⟨hs.sel [1] (by decide), hlt, hat.symm, hml, by dsimp only; omega⟩ (by dsimp only; omega) zss
    | true =>
      rw [if_pos rfl] at hat
      have hl2 : (ys ++ [(k : Int) + 1]).length = m + 1 := by rw [List.length_append, ← hml]; rfl
      repeat' (first | ((apply aP (t := 19); refine JL_o (by apply dI; exact dV (xs := ys.map (.int .i64)) (news := [.int .i64 ((k : Int) + 1)]) hs rfl rfl (kE (hs.blk (b := b18)) rfl) dW rfl (by omega) (by unfold maxLen; omega)) rfl rfl ?_; rintro _ _ ⟨a4, c4, rfl, hs, hF, hnil⟩; rw [tQ] at hs)) | (apply aT) | ((apply aM); (first | (apply aW; first | exact aU hs rfl rfl aA | exact aI hs rfl aA | exact aZ (i := k) (hr.st hs) hrx rfl rfl aA) | (apply aR; exact aH rfl aA) | (apply aC; exact aB rfl aA) | (apply aQ; exact aK rfl rfl aA) | (apply cJ; exact bT rfl rfl (by omega) (by first | (simp only [Int.reduceAdd]; exact rfl) | exact rfl) aA) | (apply aL; exact aO rfl rfl rfl aA) | (apply aN; exact aJ rfl rfl (by omega) (by omega) aA)); first | (exact rfl; exact rfl) | exact rfl) | (apply bD) | (apply aG) | (apply bA) | (apply bP) | (apply bH) | (apply aP (t := 5); refine JL_o (by apply bB; exact aV hs) rfl rfl ?_; rintro _ _ ⟨b5, rfl, hb5, hs, hE⟩) | (apply aP (t := 18); refine JL_o (by apply cQ; exact cM hs rfl (by omega) rfl) rfl rfl ?_; rintro _ _ ⟨b18, rfl, hb18, hs, hE⟩) | (apply bK; refine JL_u (by apply bE; exact aX hs rfl rfl rfl) rfl ?_; rintro _ _ ⟨hs, hF⟩) | (apply aS; first | refine bF rfl ob ?_ | refine bV rfl gb ?_))
      refine ih (k + 1, ys ++ [(k : Int) + 1], m + 1, a4, c4) _ _ ⟨hs.sel [2] (by decide), hlt, hat.symm, hl2.symm, by dsimp only; omega⟩ (by dsimp only; omega) zss
  · have hs : St w NoF w2 [_] := hs1
    have hkn : k = N.length := by omega
    rw [hkn] at hys
    have hu : oH N = ys := hys.symm
    rw [hu]
    repeat' (first | (apply aT) | ((apply aM); (first | (apply aR; exact aH rfl aA) | (apply aC; exact aB rfl aA) | (apply aL; exact aO rfl rfl rfl aA)); first | (exact rfl; exact rfl) | exact rfl) | (apply bD) | (apply aG) | (apply cF; refine cU rfl ?_) | (apply aS; refine bQ rfl ob ?_))
    refine aY Tryz.func53 rfl (.tmp rfl .nil) ⟨a5, c5, by rw [hml]; rfl, by rw [← hml]; exact hs.out (List.Sublist.refl _)⟩
theorem xA (w : World) (a : Option Addr) (n c : Nat) (rs : List RNd) (N : List NM) (hr : Sl dRNd All w a n c rs) (hm : MeanV mNode All w rs N) (hn : n ≤ 1000000) :
    Ret Tryz.prog 98 #[.slice a n c] w fun v w' => ∃ (zs : List ZE) (a' : Option Addr) (c' : Nat), (zs.map Prod.snd = eX N ∧ ∀ p ∈ zs, FromN rs N p) ∧ v = .slice a' (eW N) c' ∧ Fresh w w' [dL a' (eW N) c' (zs.map Prod.fst)] := by
  refine cE (l := [_]) Tryz.func98 rfl Tryz.ntmps98 (by simp) ?_
  have hs := St.init w
  have hlr := hr.len
  have hl : N.length = n := by rw [← hm.1]; exact hlr
  repeat' (first | (apply aT) | ((apply aM); (first | (apply aR; exact aH rfl aA) | (apply aC; exact aB rfl aA) | (apply bM; exact bU rfl aA)); first | (exact rfl; exact rfl) | exact rfl) | (apply bD) | (apply aG) | (apply bA))
  have hs := hs.nilRow 139 3
  refine cZ (α := Nat × List ZE × Nat × Option Addr × Nat) [(6, _), (7, _)] (fun g => [(3, .slice g.2.2.2.1 g.2.2.1 g.2.2.2.2), (8, .int .i64 g.1)])
    (fun g w' => St w NoF w' [dL g.2.2.2.1 g.2.2.1 g.2.2.2.2 (g.2.1.map Prod.fst)] ∧ g.1 ≤ n ∧ (g.2.1.map Prod.snd = yK N g.1 ∧ ∀ p ∈ g.2.1, FromN rs N p) ∧ g.2.2.1 = g.2.1.length ∧ g.2.2.1 ≤ g.1)
    (fun g => n - g.1) (0, [], 0, none, 0) ⟨hs.sel [0] (by decide), Nat.zero_le _, ⟨rfl, fun p hp => by cases hp⟩, rfl, Nat.le_refl _⟩ zss ?_
  rintro ⟨k, zs, m, a5, c5⟩ w2 ⟨hs1, hk, ⟨hzs, hzr⟩, hml, hmk⟩ ih
  dsimp only at hs1 hk hzs hzr hml hmk ih ⊢
  have hzo := sE hzr (by omega)
  by_cases hlt : k < n
  · obtain ⟨p, o, rfl⟩ := hr.sl.addr (by omega)
    have hs : St w NoF w2 [_] := hs1
    have hy : N[k]? = some (N[k]'(by omega)) := List.getElem?_eq_getElem (by omega)
    obtain ⟨y, hyd⟩ : ∃ y, y = N[k]'(by omega) := ⟨_, rfl⟩
    rw [← hyd] at hy
    obtain ⟨r, hrx, hrel⟩ := hm.get hy
    obtain ⟨f1, f2, f3, f4⟩ := kU hrel
    have hat := yJ N k
    rw [dN hy, ← hzs, ← f1] at hat
    obtain ⟨rb, hrb⟩ : ∃ b, r.1 = b := ⟨_, rfl⟩
    rw [hrb] at hat
    cases rb with
    | false =>
      rw [if_neg (by decide)] at hat
      repeat' (first | (apply aT) | ((apply aM); (first | (apply aW; first | exact aU hs rfl rfl aA | exact aI hs rfl aA | exact aZ (i := k) (hr.st hs) hrx rfl rfl aA) | (apply aR; exact aH rfl aA) | (apply aC; exact aB rfl aA) | (apply aQ; exact aK rfl rfl aA) | (apply cJ; exact bT rfl rfl (by omega) (by first | (simp only [Int.reduceAdd]; exact rfl) | exact rfl) aA) | (apply aL; exact aO rfl rfl rfl aA) | (apply aN; exact aJ rfl rfl (by omega) (by omega) aA)); first | (exact rfl; exact rfl) | exact rfl) | (apply bD) | (apply aG) | (apply bA) | (apply bP) | (apply bH) | (apply aP (t := 5); refine JL_o (by apply bB; exact aV hs) rfl rfl ?_; rintro _ _ ⟨b5, rfl, hb5, hs, hE⟩) | (apply bK; refine JL_u (by apply bE; exact aX hs rfl rfl rfl) rfl ?_; rintro _ _ ⟨hs, hF⟩) | (apply aS; first | refine bF rfl ob ?_ | refine bW rfl gb ?_))
      refine ih (k + 1, zs, m, a5, c5) _ _ ⟨hs.sel [1] (by decide), hlt, ⟨hat.symm, hzr⟩, hml, by dsimp only; omega⟩ (by dsimp only; omega) zss
    | true =>
      rw [if_pos rfl] at hat
      have hentk : vP N k = (1, y.2.1, (k : Int) + 1) := by rw [vP, dN hy]
      rw [hentk] at hat
      obtain ⟨re, hre⟩ : ∃ re : REnt, re = (1, r.2.1, (k : Int) + 1) := ⟨_, rfl⟩
      have hrer : mEnt.rel All w re (1, y.2.1, (k : Int) + 1) := by rw [hre]; exact ⟨rfl, f2, rfl⟩
      have hmean : MeanV mEnt All w (zs.map Prod.fst) (zs.map Prod.snd) := nQ hzr hm
      have hrv : (Value.agg #[.int .i64 1, .slice r.2.1.1 r.2.1.2.1 r.2.1.2.2, .int .i64 ((k : Int) + 1)]) = .agg (cS re).toArray := by rw [hre]
      repeat' (first | ((apply aP (t := 21); have hcon := zA _ a5 m c5 (zs.map Prod.fst) (zs.map Prod.snd) re (1, y.2.1, (k : Int) + 1) (tK (hs.row a5 m c5) hzo) (hmean.st hs) (mEnt.loc hrer (fun k _ hk => hs.frm.old k hk id)) (by omega); rw [← hrv] at hcon; refine JL_o (aF en169 rfl hcon) rfl rfl ?_; rintro _ _ ⟨zs2, a4, c4, hz2, hz3, rfl, hf⟩; have hs := hs.fresh hf)) | (apply aT) | ((apply aM); (first | (apply aW; first | exact aU hs rfl rfl aA | exact aI hs rfl aA | exact aZ (i := k) (hr.st hs) hrx rfl rfl aA) | (apply aR; exact aH rfl aA) | (apply aC; exact aB rfl aA) | (apply aQ; exact aK rfl rfl aA) | (apply cJ; exact bT rfl rfl (by omega) (by first | (simp only [Int.reduceAdd]; exact rfl) | exact rfl) aA) | (apply aL; exact aO rfl rfl rfl aA) | (apply aN; exact aJ rfl rfl (by omega) (by omega) aA) | (apply dD; exact cY rfl (by (simp only [bld, dA, cB, Value.cells, List.take_succ_cons, List.take_zero, List.drop_succ_cons, List.drop_zero, List.cons_append, List.nil_append, List.length_cons, List.length_nil, List.getElem?_cons_zero, List.getElem?_cons_succ, Option.map_some, List.append_nil, Nat.reduceAdd, Nat.reduceMul, Nat.zero_add, Nat.reduceLeDiff, and_self, if_true, List.toList_toArray, Nat.le_refl, Nat.zero_mul, Nat.one_mul]; first | done | rfl)) aA)); first | (exact rfl; exact rfl) | exact rfl) | (apply bD) | (apply aG) | (apply bA) | (apply bP) | (apply bH) | (apply aP (t := 5); refine JL_o (by apply bB; exact aV hs) rfl rfl ?_; rintro _ _ ⟨b5, rfl, hb5, hs, hE⟩) | (apply bK; refine JL_u (by apply bE; exact aX hs rfl rfl rfl) rfl ?_; rintro _ _ ⟨hs, hF⟩) | (apply aS; first | refine bF rfl ob ?_ | refine bV rfl gb ?_))
      have hzl2 : zs2.length = m + 1 := by
        have h1 := congrArg List.length hz2
        rw [List.length_map, (nH _ _).length_eq, List.length_cons, List.length_map] at h1
        omega
      refine ih (k + 1, zs2, m + 1, a4, c4) _ _ ⟨hs.sel [0] (by decide), hlt, ⟨hz2.trans hat.symm, fun p hp => ?_⟩, hzl2.symm, by dsimp only; omega⟩ (by dsimp only; omega) zss
      rcases hz3 p hp with e | e
      · obtain ⟨i, hi⟩ := List.mem_iff_getElem?.1 e
        rw [List.getElem?_zip_eq_some, List.getElem?_map, List.getElem?_map] at hi
        obtain ⟨h1, h2⟩ := hi
        cases hzi : zs[i]? with
        | none => rw [hzi] at h1; cases h1
        | some z =>
          rw [hzi] at h1 h2
          have : p = z := Prod.ext (Option.some.inj h1).symm (Option.some.inj h2).symm
          rw [this]
          exact hzr z (List.mem_of_getElem? hzi)
      · rw [e]; exact ⟨k, r, y, hrx, hy, by rw [hre]⟩
  · have hs : St w NoF w2 [_] := hs1
    have hkn : k = N.length := by omega
    rw [hkn] at hzs
    have hu : eX N = zs.map Prod.snd := hzs.symm
    have hmu : eW N = m := by rw [← gN, hu, List.length_map, hml]
    rw [hu, hmu]
    repeat' (first | (apply aT) | ((apply aM); (first | (apply aR; exact aH rfl aA) | (apply aC; exact aB rfl aA) | (apply aL; exact aO rfl rfl rfl aA)); first | (exact rfl; exact rfl) | exact rfl) | (apply bD) | (apply aG) | (apply cF; refine cU rfl ?_) | (apply aS; refine bQ rfl ob ?_))
    refine aY Tryz.func98 rfl (.tmp rfl .nil) ⟨zs, a5, c5, ⟨rfl, hzr⟩, rfl, hs.out (List.Sublist.refl _)⟩
theorem nN (w : World) (a : Option Addr) (n c : Nat) (N : List NM) (h : Sl fR All w a n c N) (hz : szN N) :
    Ret Tryz.prog 94 #[.slice a n c] w fun v w' => v = .bool (kV N) ∧ Ext w w' := by
  refine cE (l := [_]) Tryz.func94 rfl Tryz.ntmps94 (by simp) ?_
  have hs := St.init w
  have hl := h.len
  obtain ⟨rs, hr, hm⟩ := Sl.raw (D := jC) h
  have hmx := maxN h
  by_cases hn0 : n = 0
  · have hn0' : (n : Int) = 0 := by omega
    rw [kK (by unfold tU; rw [decide_eq_false (by omega)]; rfl)]
    repeat' (first | (apply aT) | ((apply aM); (first | (apply aR; exact aH rfl aA) | (apply aC; exact aB rfl aA) | (apply aL; exact aO rfl rfl rfl aA) | (apply bR; exact bL rfl gb rfl aA) | (apply bM; exact bU rfl aA)); first | (exact rfl; exact rfl) | exact rfl) | (apply bD) | (apply aG) | (apply cL; (refine eB rfl gb rfl ?_)) | (apply aS; refine bV rfl gb ?_))
    refine aY Tryz.func94 rfl (.tmp rfl .nil) ⟨rfl, hs.frm.ext⟩
  have hn0' : ¬ (n : Int) = 0 := by omega
  obtain ⟨p, o, rfl⟩ := hr.sl.addr (by omega)
  have hx0 : N[0]? = some (N[0]'(by omega)) := List.getElem?_eq_getElem (by omega)
  obtain ⟨x0, hxd0⟩ : ∃ x, x = N[0]'(by omega) := ⟨_, rfl⟩
  rw [← hxd0] at hx0
  obtain ⟨r0, hr0, hrel0⟩ := hm.get hx0
  obtain ⟨u1, u2, u3, u4⟩ := kU hrel0
  have hln0 := u2.len
  have hxl : N[n - 1]? = some (N[n - 1]'(by omega)) := List.getElem?_eq_getElem (by omega)
  obtain ⟨xl, hxdl⟩ : ∃ x, x = N[n - 1]'(by omega) := ⟨_, rfl⟩
  rw [← hxdl] at hxl
  obtain ⟨rl, hrl, hrell⟩ := hm.get hxl
  obtain ⟨v1, _⟩ := kU hrell
  have hrl' : rs[((n : Int) - 1).toNat]? = some rl := by rw [show ((n : Int) - 1).toNat = n - 1 by omega]; exact hrl
  have hhd : tU N = (rl.1 && (r0.1 && decide (r0.2.1.2.1 = 0))) := by
    unfold tU
    have e1 : dY N 1 = x0 := dM (k := 0) hx0
    have e2 : dY N N.length = xl := by
      rw [nO (by omega), hxdl]
      congr 1; omega
    rw [e1, e2, decide_eq_true (by omega), ← u1, ← v1, hln0, Bool.true_and]
  obtain ⟨bl, hbl⟩ : ∃ b, rl.1 = b := ⟨_, rfl⟩
  obtain ⟨b0, hb0⟩ : ∃ b, r0.1 = b := ⟨_, rfl⟩
  rw [hbl, hb0] at hhd
  cases bl with
  | false =>
    have hbln : (!rl.1) = true := by rw [hbl]; rfl
    rw [kK (by rw [hhd]; rfl)]
    repeat' (first | (apply aT) | ((first | (apply aM) | (apply bO; exact rfl; exact gb)); (first | (apply aW; first | exact bJ (i := ((n : Int) - 1).toNat) (j := 0) (hr.st hs) hrl' rfl rfl rfl aA) | (apply aR; exact aH rfl aA) | (apply aC; exact aB rfl aA) | (apply aQ; exact bN rfl rfl aA) | (apply dQ; exact dG rfl rfl (by omega) aA) | (apply aL; exact aO rfl rfl rfl aA) | (apply bX; exact bY rfl aA) | (apply bR; first | exact bL rfl gb rfl aA | exact bG rfl gb rfl aA) | (apply bM; exact bU rfl aA) | (apply aN; exact aJ rfl rfl (by omega) (by omega) aA)); first | (exact rfl; exact rfl) | exact rfl) | (apply bD) | (apply aG) | (apply cL; (refine eB rfl gb rfl ?_)) | (apply aS; refine bV rfl gb ?_))
    refine aY Tryz.func94 rfl (.tmp rfl .nil) ⟨rfl, hs.frm.ext⟩
  | true =>
  have hbln : (!rl.1) = false := by rw [hbl]; rfl
  cases b0 with
  | false =>
    have hb0n : (!r0.1) = true := by rw [hb0]; rfl
    rw [kK (by rw [hhd]; rfl)]
    repeat' (first | (apply aT) | ((first | (apply aM) | (apply bO; exact rfl; exact gb)); (first | (apply aW; first | exact bJ (i := ((n : Int) - 1).toNat) (j := 0) (hr.st hs) hrl' rfl rfl rfl aA | exact bJ (i := 0) (j := 0) (hr.st hs) hr0 rfl rfl rfl aA) | (apply aR; exact aH rfl aA) | (apply aC; exact aB rfl aA) | (apply aQ; exact bN rfl rfl aA) | (apply dQ; exact dG rfl rfl (by omega) aA) | (apply aL; exact aO rfl rfl rfl aA) | (apply bX; exact bY rfl aA) | (apply bR; first | exact bL rfl gb rfl aA | exact bG rfl gb rfl aA) | (apply bM; exact bU rfl aA) | (apply aN; exact aJ rfl rfl (by omega) (by omega) aA)); first | (exact rfl; exact rfl) | exact rfl) | (apply bD) | (apply aG) | (apply cL; (refine eB rfl gb rfl ?_)) | (apply aS; refine bV rfl gb ?_))
    refine aY Tryz.func94 rfl (.tmp rfl .nil) ⟨rfl, hs.frm.ext⟩
  | true =>
  have hb0n : (!r0.1) = false := by rw [hb0]; rfl
  by_cases ht0 : r0.2.1.2.1 = 0
  rotate_left
  · have ht0' : (r0.2.1.2.1 : Int) > 0 := by omega
    rw [kK (by rw [hhd, decide_eq_false ht0]; rfl)]
    repeat' (first | (apply aT) | ((first | (apply aM) | (apply bO; exact rfl; exact gb)); (first | (apply aW; first | exact bJ (i := ((n : Int) - 1).toNat) (j := 0) (hr.st hs) hrl' rfl rfl rfl aA | exact bJ (i := 0) (j := 0) (hr.st hs) hr0 rfl rfl rfl aA | exact bJ (i := 0) (j := 1) (hr.st hs) hr0 rfl rfl rfl aA) | (apply aR; exact aH rfl aA) | (apply aC; exact aB rfl aA) | (apply aQ; exact bN rfl rfl aA) | (apply dQ; exact dG rfl rfl (by omega) aA) | (apply aL; exact aO rfl rfl rfl aA) | (apply bX; exact bY rfl aA) | (apply bR; exact bG rfl gb rfl aA) | (apply bM; exact bU rfl aA) | (apply aN; exact aJ rfl rfl (by omega) (by omega) aA)); first | (exact rfl; exact rfl) | exact rfl) | (apply bD) | (apply aG) | (apply aS; refine bF rfl ob ?_))
    refine aY Tryz.func94 rfl (.tmp rfl .nil) ⟨rfl, hs.frm.ext⟩
  have ht0' : ¬ (r0.2.1.2.1 : Int) > 0 := by omega
  rw [decide_eq_true ht0] at hhd
  have hhd : tU N = true := hhd
  repeat' (first | (apply aT) | ((first | (apply aM) | (apply bO; exact rfl; exact gb)); (first | (apply aW; first | exact bJ (i := ((n : Int) - 1).toNat) (j := 0) (hr.st hs) hrl' rfl rfl rfl aA | exact bJ (i := 0) (j := 0) (hr.st hs) hr0 rfl rfl rfl aA | exact bJ (i := 0) (j := 1) (hr.st hs) hr0 rfl rfl rfl aA) | (apply aR; exact aH rfl aA) | (apply aC; exact aB rfl aA) | (apply aQ; exact bN rfl rfl aA) | (apply dQ; exact dG rfl rfl (by omega) aA) | (apply aL; exact aO rfl rfl rfl aA) | (apply bX; exact bY rfl aA) | (apply bR; exact bG rfl gb rfl aA) | (apply bM; exact bU rfl aA) | (apply aN; exact aJ rfl rfl (by omega) (by omega) aA)); first | (exact rfl; exact rfl) | exact rfl) | (apply bD) | (apply aG) | (apply bA) | (apply bH) | (apply aS; refine bQ rfl ob ?_))
  refine cZ (α := Nat) [(0, _), (34, _), (35, _)] (fun k => [(3, .int .i64 (eW (N.take k))), (36, .int .i64 k)]) (fun k w' => St w NoF w' [] ∧ k ≤ n ∧ ∀ j, j < k → oK N j = true) (fun k => n - k) 0 ⟨hs.sel [] (by decide), Nat.zero_le _, fun j hj => absurd hj (Nat.not_lt_zero _)⟩ zss ?_
  rintro k w2 ⟨hs1, hk, hall⟩ ih
  have hs : St w NoF w2 [] := hs1
  by_cases hlt : k < n
  · have hv : N[k]? = some (N[k]'(by omega)) := List.getElem?_eq_getElem (by omega)
    obtain ⟨x, hxd⟩ : ∃ x, x = N[k]'(by omega) := ⟨_, rfl⟩
    rw [← hxd] at hv
    obtain ⟨z1, z2, z3⟩ := hz x (List.mem_of_getElem? hv)
    obtain ⟨r, hrx, hrel⟩ := hm.get hv
    obtain ⟨e1, m1, m2, m3⟩ := kU hrel
    have l1 := m1.len
    have l2 := m2.len
    have l3 := m3.len
    have hnb : oK N k = if x.1 then eC x.2.1 && (decide (fV N x.2.1 = k + 1) && (iI N ((k : Int) + 1) x.2.2.1 true && iI N ((k : Int) + 1) x.2.2.2 false)) else decide (x.2.1.length + x.2.2.1.length + x.2.2.2.length = 0) := by unfold oK; rw [dN hv]
    have hmu : eW (N.take (k + 1)) = eW (N.take k) + if x.1 then 1 else 0 := by
      unfold eW
      rw [fJ _ hv, List.length_append]
      cases x.1 <;> rfl
    have hmul : eW (N.take k) ≤ k := by unfold eW; exact Nat.le_trans (List.length_filter_le _ _) (by rw [List.length_take]; omega)
    rw [← e1] at hnb hmu
    obtain ⟨xb, hxb⟩ : ∃ b, r.1 = b := ⟨_, rfl⟩
    rw [hxb] at hnb hmu
    cases xb with
    | false =>
      have hxn : (!r.1) = true := by rw [hxb]; rfl
      rw [if_neg (by decide)] at hnb hmu
      by_cases hs0 : x.2.1.length + x.2.2.1.length + x.2.2.2.length = 0
      · have hs0' : ¬ (r.2.1.2.1 : Int) + r.2.2.1.2.1 + r.2.2.2.2.1 > 0 := by omega
        repeat' (first | (apply aT) | ((apply aM); (first | (apply aW; first | exact aZ (i := k) (hr.st hs) hrx rfl rfl aA | exact aU hs rfl rfl aA | exact aI hs rfl aA) | (apply aR; exact aH rfl aA) | (apply aC; exact aB rfl aA) | (apply aQ; exact aK rfl rfl aA) | (apply cJ; exact bT rfl rfl (by omega) (by first | (simp only [Int.reduceAdd]; exact rfl) | exact rfl) aA) | (apply aL; exact aO rfl rfl rfl aA) | (apply bX; exact bY rfl aA) | (apply bM; exact bU rfl aA) | (apply aN; exact aJ rfl rfl (by omega) (by omega) aA)); first | (exact rfl; exact rfl) | exact rfl) | (apply bD) | (apply aG) | (apply bA) | (apply cF; refine cU rfl ?_) | (apply bH) | (apply aP (t := 5); refine JL_o (by apply bB; exact aV hs) rfl rfl ?_; rintro _ _ ⟨b5, rfl, hb5, hs, hE⟩) | (apply bK; refine JL_u (by apply bE; exact aX hs rfl rfl rfl) rfl ?_; rintro _ _ ⟨hs, hF⟩) | (apply aS; first | refine bF rfl ob ?_ | refine bQ rfl ob ?_ | refine bV rfl gb ?_))
        refine ih (k + 1) _ _ ⟨hs.sel [] (by decide), hlt, fun j hj => ?_⟩ (by omega) (by rw [hmu]; repeat' (first | exact trivial | exact rfl | apply And.intro))
        by_cases e : j = k
        · rw [e, hnb, decide_eq_true hs0]
        · exact hall j (by omega)
      · have hs0' : (r.2.1.2.1 : Int) + r.2.2.1.2.1 + r.2.2.2.2.1 > 0 := by omega
        rw [iT (k := k) (by omega) (hnb.trans (decide_eq_false hs0))]
        repeat' (first | (apply aT) | ((apply aM); (first | (apply aW; first | exact aZ (i := k) (hr.st hs) hrx rfl rfl aA | exact aU hs rfl rfl aA | exact aI hs rfl aA) | (apply aR; exact aH rfl aA) | (apply aC; exact aB rfl aA) | (apply aQ; exact aK rfl rfl aA) | (apply cJ; exact bT rfl rfl (by omega) (by first | (simp only [Int.reduceAdd]; exact rfl) | exact rfl) aA) | (apply aL; exact aO rfl rfl rfl aA) | (apply bX; exact bY rfl aA) | (apply bM; exact bU rfl aA) | (apply aN; exact aJ rfl rfl (by omega) (by omega) aA)); first | (exact rfl; exact rfl) | exact rfl) | (apply bD) | (apply aG) | (apply bA) | (apply bH) | (apply aP (t := 5); refine JL_o (by apply bB; exact aV hs) rfl rfl ?_; rintro _ _ ⟨b5, rfl, hb5, hs, hE⟩) | (apply bK; refine JL_u (by apply bE; exact aX hs rfl rfl rfl) rfl ?_; rintro _ _ ⟨hs, hF⟩) | (apply aS; first | refine bF rfl ob ?_ | refine bV rfl gb ?_))
        refine aY Tryz.func94 rfl (.tmp rfl .nil) ⟨rfl, hs.frm.ext⟩
    | true =>
      have hxn : (!r.1) = false := by rw [hxb]; rfl
      rw [if_pos rfl] at hnb hmu
      obtain ⟨f1, hf⟩ : ∃ f1 : Nat, fV N x.2.1 = f1 := ⟨_, rfl⟩
      obtain ⟨tb, htb⟩ : ∃ b, eC x.2.1 = b := ⟨_, rfl⟩
      obtain ⟨sp, hsp⟩ : ∃ b, iI N ((k : Int) + 1) x.2.2.1 true = b := ⟨_, rfl⟩
      obtain ⟨sl, hsl⟩ : ∃ b, iI N ((k : Int) + 1) x.2.2.2 false = b := ⟨_, rfl⟩
      rw [hf, htb, hsp, hsl] at hnb
      cases tb with
      | false =>
        rw [iT (k := k) (by omega) (by rw [hnb]; rfl)]
        repeat' (first | ((apply bC 26; refine JL_o (by exact aF en26 rfl (iK _ r.2.1.1 r.2.1.2.1 r.2.1.2.2 x.2.1 (m1.st hs))) rfl rfl ?_; rintro _ _ ⟨rfl, hE⟩; rw [htb]; have hs := hs.ext hE; (try simp only [zcc] at hs))) | (apply aT) | ((apply aM); (first | (apply aW; first | exact aZ (i := k) (hr.st hs) hrx rfl rfl aA | exact aU hs rfl rfl aA | exact aI hs rfl aA) | (apply aR; exact aH rfl aA) | (apply aC; exact aB rfl aA) | (apply aQ; exact aK rfl rfl aA) | (apply cJ; exact bT rfl rfl (by omega) (by first | (simp only [Int.reduceAdd]; exact rfl) | exact rfl) aA) | (apply aL; exact aO rfl rfl rfl aA) | (apply bX; exact bY rfl aA) | (apply bR; exact bL rfl gb rfl aA) | (apply aN; exact aJ rfl rfl (by omega) (by omega) aA)); first | (exact rfl; exact rfl) | exact rfl) | (apply bD) | (apply aG) | (apply bA) | (apply bH) | (apply aP (t := 5); refine JL_o (by apply bB; exact aV hs) rfl rfl ?_; rintro _ _ ⟨b5, rfl, hb5, hs, hE⟩) | (apply bK; refine JL_u (by apply bE; exact aX hs rfl rfl rfl) rfl ?_; rintro _ _ ⟨hs, hF⟩) | (apply cL; (refine eB rfl gb rfl ?_)) | (apply aS; first | refine bF rfl ob ?_ | refine bV rfl gb ?_ | refine bW rfl gb ?_))
        refine aY Tryz.func94 rfl (.tmp rfl .nil) ⟨rfl, hs.frm.ext⟩
      | true =>
      by_cases hf1 : f1 = k + 1
      rotate_left
      · have hf1' : (f1 : Int) ≠ (k : Int) + 1 := by omega
        rw [iT (k := k) (by omega) (by rw [hnb, decide_eq_false hf1]; rfl)]
        repeat' (first | ((apply bC 26; refine JL_o (by exact aF en26 rfl (iK _ r.2.1.1 r.2.1.2.1 r.2.1.2.2 x.2.1 (m1.st hs))) rfl rfl ?_; rintro _ _ ⟨rfl, hE⟩; rw [htb]; have hs := hs.ext hE; (try simp only [zcc] at hs))) | ((apply bZ 57; refine cH rfl gb (by exact aF en57 rfl (lL _ (some ⟨p, o, none⟩) r.2.1.1 n c r.2.1.2.1 r.2.1.2.2 N x.2.1 (h.st hs) (m1.st hs))) rfl rfl ?_; rintro _ _ ⟨rfl, hE⟩; rw [hf]; have hs := hs.ext hE; (try simp only [zcc] at hs))) | (apply aT) | ((first | (apply aM) | (apply bO; exact rfl; exact gb)); (first | (apply aW; first | exact aZ (i := k) (hr.st hs) hrx rfl rfl aA | exact aU hs rfl rfl aA | exact aI hs rfl aA) | (apply aR; exact aH rfl aA) | (apply aC; exact aB rfl aA) | (apply aQ; exact aK rfl rfl aA) | (apply cJ; exact bT rfl rfl (by omega) (by first | (simp only [Int.reduceAdd]; exact rfl) | exact rfl) aA) | (apply aL; exact aO rfl rfl rfl aA) | (apply bX; exact bY rfl aA) | (apply bR; first | exact bL rfl gb rfl aA | exact bG rfl gb rfl aA) | (apply aN; exact aJ rfl rfl (by omega) (by omega) aA)); first | (exact rfl; exact rfl) | exact rfl) | (apply bD) | (apply aG) | (apply bA) | (apply bH) | (apply aP (t := 5); refine JL_o (by apply bB; exact aV hs) rfl rfl ?_; rintro _ _ ⟨b5, rfl, hb5, hs, hE⟩) | (apply bK; refine JL_u (by apply bE; exact aX hs rfl rfl rfl) rfl ?_; rintro _ _ ⟨hs, hF⟩) | (apply cL; (refine eB rfl gb rfl ?_)) | (apply aS; first | refine bF rfl ob ?_ | refine bV rfl gb ?_ | refine bW rfl gb ?_))
        refine aY Tryz.func94 rfl (.tmp rfl .nil) ⟨rfl, hs.frm.ext⟩
      have hf1' : ¬ (f1 : Int) ≠ (k : Int) + 1 := by omega
      rw [decide_eq_true hf1] at hnb
      cases sp with
      | false =>
        rw [iT (k := k) (by omega) (by rw [hnb]; rfl)]
        repeat' (first | ((apply bC 26; refine JL_o (by exact aF en26 rfl (iK _ r.2.1.1 r.2.1.2.1 r.2.1.2.2 x.2.1 (m1.st hs))) rfl rfl ?_; rintro _ _ ⟨rfl, hE⟩; rw [htb]; have hs := hs.ext hE; (try simp only [zcc] at hs))) | ((apply bZ 57; refine cH rfl gb (by exact aF en57 rfl (lL _ (some ⟨p, o, none⟩) r.2.1.1 n c r.2.1.2.1 r.2.1.2.2 N x.2.1 (h.st hs) (m1.st hs))) rfl rfl ?_; rintro _ _ ⟨rfl, hE⟩; rw [hf]; have hs := hs.ext hE; (try simp only [zcc] at hs))) | ((apply bZ 167; refine cH rfl gb (by exact aF aA9 rfl (jO _ (some ⟨p, o, none⟩) r.2.2.1.1 n c r.2.2.1.2.1 r.2.2.1.2.2 N k x.2.2.1 true (h.st hs) hlt hz (m2.st hs))) rfl rfl ?_; rintro _ _ ⟨rfl, hE⟩; rw [hsp]; have hs := hs.ext hE; (try simp only [zcc] at hs))) | (apply aT) | ((first | (apply aM) | (apply bO; exact rfl; exact gb)); (first | (apply aW; first | exact aZ (i := k) (hr.st hs) hrx rfl rfl aA | exact aU hs rfl rfl aA | exact aI hs rfl aA) | (apply aR; exact aH rfl aA) | (apply aC; exact aB rfl aA) | (apply aQ; exact aK rfl rfl aA) | (apply cJ; exact bT rfl rfl (by omega) (by first | (simp only [Int.reduceAdd]; exact rfl) | exact rfl) aA) | (apply aL; exact aO rfl rfl rfl aA) | (apply bX; exact bY rfl aA) | (apply bR; first | exact bL rfl gb rfl aA | exact bG rfl gb rfl aA) | (apply aN; exact aJ rfl rfl (by omega) (by omega) aA)); first | (exact rfl; exact rfl) | exact rfl) | (apply bD) | (apply aG) | (apply bA) | (apply bH) | (apply aP (t := 5); refine JL_o (by apply bB; exact aV hs) rfl rfl ?_; rintro _ _ ⟨b5, rfl, hb5, hs, hE⟩) | (apply bK; refine JL_u (by apply bE; exact aX hs rfl rfl rfl) rfl ?_; rintro _ _ ⟨hs, hF⟩) | (apply cL; (refine eB rfl gb rfl ?_)) | (apply aS; first | refine bF rfl ob ?_ | refine bV rfl gb ?_ | refine bW rfl gb ?_))
        refine aY Tryz.func94 rfl (.tmp rfl .nil) ⟨rfl, hs.frm.ext⟩
      | true =>
      cases sl with
      | false =>
        rw [iT (k := k) (by omega) (by rw [hnb]; rfl)]
        repeat' (first | ((apply bC 26; refine JL_o (by exact aF en26 rfl (iK _ r.2.1.1 r.2.1.2.1 r.2.1.2.2 x.2.1 (m1.st hs))) rfl rfl ?_; rintro _ _ ⟨rfl, hE⟩; rw [htb]; have hs := hs.ext hE; (try simp only [zcc] at hs))) | ((apply bZ 57; refine cH rfl gb (by exact aF en57 rfl (lL _ (some ⟨p, o, none⟩) r.2.1.1 n c r.2.1.2.1 r.2.1.2.2 N x.2.1 (h.st hs) (m1.st hs))) rfl rfl ?_; rintro _ _ ⟨rfl, hE⟩; rw [hf]; have hs := hs.ext hE; (try simp only [zcc] at hs))) | ((apply bZ 167; refine cH rfl gb (by exact aF aA9 rfl (jO _ (some ⟨p, o, none⟩) r.2.2.1.1 n c r.2.2.1.2.1 r.2.2.1.2.2 N k x.2.2.1 true (h.st hs) hlt hz (m2.st hs))) rfl rfl ?_; rintro _ _ ⟨rfl, hE⟩; rw [hsp]; have hs := hs.ext hE; (try simp only [zcc] at hs))) | ((apply bZ 167; refine cH rfl gb (by exact aF aA9 rfl (jO _ (some ⟨p, o, none⟩) r.2.2.2.1 n c r.2.2.2.2.1 r.2.2.2.2.2 N k x.2.2.2 false (h.st hs) hlt hz (m3.st hs))) rfl rfl ?_; rintro _ _ ⟨rfl, hE⟩; rw [hsl]; have hs := hs.ext hE; (try simp only [zcc] at hs))) | (apply aT) | ((first | (apply aM) | (apply bO; exact rfl; exact gb)); (first | (apply aW; first | exact aZ (i := k) (hr.st hs) hrx rfl rfl aA | exact aU hs rfl rfl aA | exact aI hs rfl aA) | (apply aR; exact aH rfl aA) | (apply aC; exact aB rfl aA) | (apply aQ; exact aK rfl rfl aA) | (apply cJ; exact bT rfl rfl (by omega) (by first | (simp only [Int.reduceAdd]; exact rfl) | exact rfl) aA) | (apply aL; exact aO rfl rfl rfl aA) | (apply bX; exact bY rfl aA) | (apply bR; exact bG rfl gb rfl aA) | (apply aN; exact aJ rfl rfl (by omega) (by omega) aA)); first | (exact rfl; exact rfl) | exact rfl) | (apply bD) | (apply aG) | (apply bA) | (apply bH) | (apply aP (t := 5); refine JL_o (by apply bB; exact aV hs) rfl rfl ?_; rintro _ _ ⟨b5, rfl, hb5, hs, hE⟩) | (apply bK; refine JL_u (by apply bE; exact aX hs rfl rfl rfl) rfl ?_; rintro _ _ ⟨hs, hF⟩) | (apply aS; first | refine bF rfl ob ?_ | refine bV rfl gb ?_ | refine bW rfl gb ?_))
        refine aY Tryz.func94 rfl (.tmp rfl .nil) ⟨rfl, hs.frm.ext⟩
      | true =>
        repeat' (first | ((apply bC 26; refine JL_o (by exact aF en26 rfl (iK _ r.2.1.1 r.2.1.2.1 r.2.1.2.2 x.2.1 (m1.st hs))) rfl rfl ?_; rintro _ _ ⟨rfl, hE⟩; rw [htb]; have hs := hs.ext hE; (try simp only [zcc] at hs))) | ((apply bZ 57; refine cH rfl gb (by exact aF en57 rfl (lL _ (some ⟨p, o, none⟩) r.2.1.1 n c r.2.1.2.1 r.2.1.2.2 N x.2.1 (h.st hs) (m1.st hs))) rfl rfl ?_; rintro _ _ ⟨rfl, hE⟩; rw [hf]; have hs := hs.ext hE; (try simp only [zcc] at hs))) | ((apply bZ 167; refine cH rfl gb (by exact aF aA9 rfl (jO _ (some ⟨p, o, none⟩) r.2.2.1.1 n c r.2.2.1.2.1 r.2.2.1.2.2 N k x.2.2.1 true (h.st hs) hlt hz (m2.st hs))) rfl rfl ?_; rintro _ _ ⟨rfl, hE⟩; rw [hsp]; have hs := hs.ext hE; (try simp only [zcc] at hs))) | ((apply bZ 167; refine cH rfl gb (by exact aF aA9 rfl (jO _ (some ⟨p, o, none⟩) r.2.2.2.1 n c r.2.2.2.2.1 r.2.2.2.2.2 N k x.2.2.2 false (h.st hs) hlt hz (m3.st hs))) rfl rfl ?_; rintro _ _ ⟨rfl, hE⟩; rw [hsl]; have hs := hs.ext hE; (try simp only [zcc] at hs))) | (apply aT) | ((first | (apply aM) | (apply bO; exact rfl; exact gb)); (first | (apply aW; first | exact aZ (i := k) (hr.st hs) hrx rfl rfl aA | exact aU hs rfl rfl aA | exact aI hs rfl aA) | (apply aR; exact aH rfl aA) | (apply aC; exact aB rfl aA) | (apply aQ; exact aK rfl rfl aA) | (apply cJ; exact bT rfl rfl (by omega) (by first | (simp only [Int.reduceAdd]; exact rfl) | exact rfl) aA) | (apply aL; exact aO rfl rfl rfl aA) | (apply bX; exact bY rfl aA) | (apply bR; exact bG rfl gb rfl aA) | (apply aN; exact aJ rfl rfl (by omega) (by omega) aA)); first | (exact rfl; exact rfl) | exact rfl) | (apply bD) | (apply aG) | (apply bA) | (apply bP) | (apply bH) | (apply aP (t := 5); refine JL_o (by apply bB; exact aV hs) rfl rfl ?_; rintro _ _ ⟨b5, rfl, hb5, hs, hE⟩) | (apply bK; refine JL_u (by apply bE; exact aX hs rfl rfl rfl) rfl ?_; rintro _ _ ⟨hs, hF⟩) | (apply aS; first | refine bF rfl ob ?_ | refine bW rfl gb ?_))
        refine ih (k + 1) _ _ ⟨hs.sel [] (by decide), hlt, fun j hj => ?_⟩ (by omega) (by rw [hmu]; repeat' (first | exact trivial | exact rfl | apply And.intro))
        by_cases e : j = k
        · rw [e, hnb]; rfl
        · exact hall j (by omega)
  · have hkn : k = n := by omega
    subst hkn
    rw [List.take_of_length_le (by omega)] at *
    have hall2 : (List.range N.length).all (oK N) = true := List.all_eq_true.2 fun j hj => hall j (by have := List.mem_range.1 hj; omega)
    have hres : kV N = decide ((eW N : Int) ≤ 4000) := by
      unfold kV
      rw [hhd, hall2, Bool.true_and, Bool.true_and, decide_eq_decide]
      omega
    rw [hres]
    repeat' (first | (apply aT) | ((apply aM); (first | (apply aR; exact aH rfl aA) | (apply aC; exact aB rfl aA) | (apply aL; exact aO rfl rfl rfl aA)); first | (exact rfl; exact rfl) | exact rfl) | (apply bD) | (apply aG) | (apply cF; refine cU rfl ?_) | (apply aS; refine bQ rfl ob ?_))
    refine aY Tryz.func94 rfl (.tmp rfl .nil) ⟨rfl, hs.frm.ext⟩
end Go.Eng
end
section
namespace Go.Eng
open Go.Proofs
set_option linter.unusedSimpArgs false
set_option linter.unusedVariables false
abbrev z0 : RS := (none, 0, 0)
abbrev r00 : RNd := (false, z0, z0, z0)
abbrev rNew (q : RS) : RNd := (true, q, z0, z0)
theorem wO {α : Type} (d : Ty α) (R : Nat → Prop) (w : World) : Sl d R w none 0 0 [] := ⟨Nat.le_refl _, by unfold maxLen; omega, fun _ => rfl, ⟨rfl, fun _ => rfl, fun h => absurd h (by omega), (fun b o h => by cases h), (fun i x h => by simp at h)⟩⟩
theorem Sl.to {α : Type} {d : Ty α} {R : Nat → Prop} {w : World} {a : Option Addr} {n c : Nat} {xs ys : List α} (e : xs = ys) (h : Sl d R w a n c xs) : Sl d R w a n c ys := e ▸ h
theorem rel_new {R : Nat → Prop} {w : World} {a : Option Addr} {n c : Nat} {t : List Int} (h : Sl dId R w a n c t) : mNode.rel R w (rNew (a, n, c)) (newN t) := ⟨rfl, h, wO _ _ _, wO _ _ _⟩
theorem sG (rs : List RNd) (k : Nat) (r : RNd) (hk : k < rs.length) : cB (encL cNd rs) (k * 4) (cNd r) = encL cNd (rs.set k r) := (jG (d := dRNd) rs k r hk).symm
theorem slNd {w0 w : World} {F : Nat → Prop} {L : List HP} {a : Option Addr} {n c : Nat} {rs : List RNd} {N : List NM} (hs : St w0 F w L) (h1 : TabN a n c rs ∈ L) (hm : MeanV mNode All w rs N) : Sl fR All w a n c N :=
  Sl.unraw (D := jC) ((RowV.slF (d := dRNd) (hs.all _ h1) (by decide) (fun _ _ => ⟨trivial, trivial, trivial, trivial⟩)).weak (fun _ _ => trivial)) hm
attribute [local irreducible] Hold J JL JD JX JXat OpR OpG Ret RetV Is Blk Row
set_option maxRecDepth 100000
set_option maxHeartbeats 2000000
theorem wP (w : World) : Ret Tryz.prog 55 #[] w fun v w' => ∃ a' c', v = .slice a' 1 c' ∧ Ext w w' ∧ Sl fR All w' a' 1 c' [newN []] := by
  refine cE (l := []) Tryz.func55 rfl Tryz.ntmps55 (by simp) ?_
  have hs := St.init w
  repeat' (first | (apply aT) | ((apply aM); (first | (apply aC; exact aB rfl aA) | (apply dD; exact cY rfl (by (simp only [bld, dA, cB, Value.cells, List.take_succ_cons, List.take_zero, List.drop_succ_cons, List.drop_zero, List.cons_append, List.nil_append, List.length_cons, List.length_nil, List.getElem?_cons_zero, List.getElem?_cons_succ, Option.map_some, List.append_nil, Nat.reduceAdd, Nat.reduceMul, Nat.zero_add, Nat.reduceLeDiff, and_self, if_true, List.toList_toArray, Nat.le_refl, Nat.zero_mul, Nat.one_mul]; first | done | rfl)) aA)); first | (exact rfl; exact rfl) | exact rfl) | (apply bD) | (apply aG) | (apply aP (t := 2); refine JL_o (by apply cQ; exact cM hs rfl (by omega) rfl) rfl rfl ?_; rintro _ _ ⟨b2, rfl, hb2, hs, hE⟩))
  have hs := hs.toRow 0 1 1 4 (xs := encL cNd [rNew z0]) (Nat.le_refl _) (by unfold maxLen; omega) (by decide) rfl
  refine aY Tryz.func55 rfl (.tmp rfl .nil) ⟨some ⟨b2, 0, none⟩, 1, rfl, hs.frm.ext, slNd hs zmm (MeanV.one (rel_new (wO _ _ _)))⟩
theorem xV (w : World) (a a2 : Option Addr) (n c n2 c2 : Nat) (N : List NM) (E : List Ent) (h : Sl fR All w a n c N) (hE0 : Sl dEnt All w a2 n2 c2 E) (hn : n ≤ 1000000) (hn2 : n2 ≤ 1048576) (hz : szN N) :
    Ret Tryz.prog 32 #[.agg #[.slice a n c, .slice a2 n2 c2]] w fun v w' => v = .bool (eR N E) ∧ Ext w w' := by
  refine cE (l := [_]) Tryz.func32 rfl Tryz.ntmps32 (by simp) ?_
  have hs := St.init w
  have hl := h.len
  have hl2 := hE0.len
  obtain ⟨rs, hr, hm⟩ := Sl.raw (D := jC) h
  obtain ⟨re, hre, hme⟩ := Sl.raw (D := fZ) hE0
  have hlr := hr.len
  have hlre := hre.len
  have hEo := mW hE0
  have hreo : ∀ r ∈ re, okE r := (hre.srcF).2.2
  rw [← vH]
  obtain ⟨b1, hnb⟩ : ∃ b, kV N = b := ⟨_, rfl⟩
  obtain ⟨b2, hcb⟩ : ∃ b, dJ E = b := ⟨_, rfl⟩
  have hR : wI N E = (b1 && (b2 && decide (allM E = eX N))) := by unfold wI; rw [hnb, hcb]
  rw [hR]
  have hrm : qX E = b2 := by rw [pF, hcb]
  cases b1 with
  | false =>
    repeat' (first | ((apply ax_c; apply iL 94; exact rfl; (intro W X hN hs; exact aF en94 rfl (nN _ a n c N (h.st hs) hz)); (rintro _ _ _ _ ⟨rfl, hE⟩; first | exact hE | exact Fresh.ext hf); rintro W X _ _ hN hs ⟨rfl, hE⟩; rw [hnb]; have hs := hs.ext hE; (try simp only [zcc] at hs); refine JX.at hs ?_)) | (apply aT) | ((first | (apply aM) | (apply JX_f; exact rfl; intro W X hs)); (first | (apply aR; exact aH rfl aA) | (apply aC; exact aB rfl aA) | (apply aQ; exact aK rfl rfl aA) | (apply aW; exact aU hs rfl rfl aA) | (apply bR; exact bG rfl gb rfl aA)); first | (exact rfl; exact rfl) | exact rfl) | (apply bD) | (apply aG) | (apply aP (t := 1); refine JL_o (by apply cI; exact bS hs rfl) rfl rfl ?_; rintro _ _ ⟨b1, rfl, hb1, hs, hE⟩) | (apply cW; (refine cR (id := 1) [0, 1, 3, 7, 15, 31, 63, 127, 255, 511, 1023, 2047, 511, 4607, 16383, 32767, 65535, 131071] [(0, 0), (1, 0), (2, 1), (3, 0), (4, 0), (5, 0), (6, 1), (7, 0), (8, 0), (9, 0), (10, 0), (12, 0), (13, 0), (11, 1), (14, 1), (15, 1), (16, 0), (17, 0)] [] hs dP (by kernel_rfl) (by kernel_rfl) (by kernel_rfl) (by kernel_rfl) (by kernel_rfl) ?_)) | (refine cV (fun W hs => ?_)) | (refine dO rfl rfl gb rfl ?_) | (refine dR rfl rfl gb rfl ?_) | (apply dC))
    refine aY Tryz.func32 rfl (.tmp rfl .nil) ⟨rfl, hs.frm.ext⟩
  | true =>
  cases b2 with
  | false =>
    repeat' (first | ((apply ax_c; apply iL 94; exact rfl; (intro W X hN hs; exact aF en94 rfl (nN _ a n c N (h.st hs) hz)); (rintro _ _ _ _ ⟨rfl, hE⟩; first | exact hE | exact Fresh.ext hf); rintro W X _ _ hN hs ⟨rfl, hE⟩; rw [hnb]; have hs := hs.ext hE; (try simp only [zcc] at hs); refine JX.at hs ?_)) | ((apply ax_c; apply dB 95; exact rfl; exact rfl; exact gb; (intro W X hN hs; exact aF en95 rfl (oN _ a2 n2 c2 E (hE0.st hs) hn2)); (rintro _ _ _ _ ⟨rfl, hE⟩; first | exact hE | exact Fresh.ext hf); rintro W X _ _ hN hs ⟨rfl, hE⟩; rw [hrm]; have hs := hs.ext hE; (try simp only [zcc] at hs); refine JX.at hs ?_)) | (apply aT) | ((first | (apply aM) | (apply JX_f; exact rfl; intro W X hs) | (apply dX; exact rfl; exact rfl; exact gb; intro W X hs)); (first | (apply aR; exact aH rfl aA) | (apply aC; exact aB rfl aA) | (apply aQ; exact aK rfl rfl aA) | (apply aW; first | exact aU hs rfl rfl aA | exact aI hs rfl aA) | (apply bR; first | exact bL rfl gb rfl aA | exact bG rfl gb rfl aA)); first | (exact rfl; exact rfl) | exact rfl) | (apply bD) | (apply aG) | (apply aP (t := 1); refine JL_o (by apply cI; exact bS hs rfl) rfl rfl ?_; rintro _ _ ⟨b1, rfl, hb1, hs, hE⟩) | (apply cW; (refine cR (id := 1) [0, 1, 3, 7, 15, 31, 63, 127, 255, 511, 1023, 2047, 511, 4607, 16383, 32767, 65535, 131071] [(0, 0), (1, 0), (2, 1), (3, 0), (4, 0), (5, 0), (6, 1), (7, 0), (8, 0), (9, 0), (10, 0), (12, 0), (13, 0), (11, 1), (14, 1), (15, 1), (16, 0), (17, 0)] [] hs dP (by kernel_rfl) (by kernel_rfl) (by kernel_rfl) (by kernel_rfl) (by kernel_rfl) ?_)) | (refine cV (fun W hs => ?_)) | (refine dO rfl rfl gb rfl ?_) | (refine dR rfl rfl gb rfl ?_) | (apply dC))
    refine aY Tryz.func32 rfl (.tmp rfl .nil) ⟨rfl, hs.frm.ext⟩
  | true =>
    have hml : eW N ≤ 1000000 := by unfold eW; exact Nat.le_trans (List.length_filter_le _ _) (by omega)
    have hal : (allM E).length ≤ 1048576 := by rw [(fB E).length_eq]; exact Nat.le_trans (List.length_filter_le _ _) (by omega)
    repeat' (first | ((apply ax_c; apply iL 94; exact rfl; (intro W X hN hs; exact aF en94 rfl (nN _ a n c N (h.st hs) hz)); (rintro _ _ _ _ ⟨rfl, hE⟩; first | exact hE | exact Fresh.ext hf); rintro W X _ _ hN hs ⟨rfl, hE⟩; rw [hnb]; have hs := hs.ext hE; (try simp only [zcc] at hs); refine JX.at hs ?_)) | ((apply ax_c; apply dB 95; exact rfl; exact rfl; exact gb; (intro W X hN hs; exact aF en95 rfl (oN _ a2 n2 c2 E (hE0.st hs) hn2)); (rintro _ _ _ _ ⟨rfl, hE⟩; first | exact hE | exact Fresh.ext hf); rintro W X _ _ hN hs ⟨rfl, hE⟩; rw [hrm]; have hs := hs.ext hE; (try simp only [zcc] at hs); refine JX.at hs ?_)) | ((apply ax_c; apply dB 97; exact rfl; exact rfl; exact gb; (intro W X hN hs; exact aF en97 rfl (all7_r _ a2 n2 c2 re E (hre.st hs) (hme.st hs) hn2)); (rintro _ _ _ _ ⟨zs7, a7, c7, hz7, hp7, rfl, hf⟩; first | exact hE | exact Fresh.ext hf); rintro W X _ _ hN hs ⟨zs7, a7, c7, hz7, hp7, rfl, hf⟩; have hs := hs.fresh hf; (try simp only [zcc] at hs); refine JX.at hs ?_)) | ((apply ax_c; apply dB 98; exact rfl; exact rfl; exact gb; (intro W X hN hs; exact aF en98 rfl (xA _ a n c rs N (hr.st hs) (hm.st hs) hn)); (rintro _ _ _ _ ⟨zs8, a8, c8, ⟨hz8, hp8⟩, rfl, hf⟩; first | exact hE | exact Fresh.ext hf); rintro W X _ _ hN hs ⟨zs8, a8, c8, ⟨hz8, hp8⟩, rfl, hf⟩; have hs := hs.fresh hf; (try simp only [zcc] at hs); refine JX.at hs ?_)) | ((apply ax_c; apply dB 96; exact rfl; exact rfl; exact gb; (intro W X hN hs; exact aF en96 rfl (zS _ a7 a8 (allM E).length c7 (eW N) c8 (allM E) (eX N) (Sl.to hz7 (Sl.unraw (D := fZ) (tK (hs.row a7 (allM E).length c7) (yX hp7 hreo)) (yY (hme.st hs) hp7))) (Sl.to hz8 (Sl.unraw (D := fZ) (tK (hs.row a8 (eW N) c8) (sE hp8 (by omega))) (nQ hp8 (hm.st hs)))) hal)); (rintro _ _ _ _ ⟨rfl, hE⟩; first | exact hE | exact Fresh.ext hf); rintro W X _ _ hN hs ⟨rfl, hE⟩; have hs := hs.ext hE; (try simp only [zcc] at hs); refine JX.at hs ?_)) | (apply aT) | ((first | (apply aM) | (apply JX_f; exact rfl; intro W X hs) | (apply dX; exact rfl; exact rfl; exact gb; intro W X hs)); (first | (apply aR; exact aH rfl aA) | (apply aC; exact aB rfl aA) | (apply aQ; exact aK rfl rfl aA) | (apply aW; first | exact aU hs rfl rfl aA | exact aI hs rfl aA) | (apply bR; exact bL rfl gb rfl aA)); first | (exact rfl; exact rfl) | exact rfl) | (apply bD) | (apply aG) | (apply aP (t := 1); refine JL_o (by apply cI; exact bS hs rfl) rfl rfl ?_; rintro _ _ ⟨b1, rfl, hb1, hs, hE⟩) | (apply cW; (refine cR (id := 1) [0, 1, 3, 7, 15, 31, 63, 127, 255, 511, 1023, 2047, 511, 4607, 16383, 32767, 65535, 131071] [(0, 0), (1, 0), (2, 1), (3, 0), (4, 0), (5, 0), (6, 1), (7, 0), (8, 0), (9, 0), (10, 0), (12, 0), (13, 0), (11, 1), (14, 1), (15, 1), (16, 0), (17, 0)] [] hs dP (by kernel_rfl) (by kernel_rfl) (by kernel_rfl) (by kernel_rfl) (by kernel_rfl) ?_)) | (refine cV (fun W hs => ?_)) | (apply dC))
    refine aY Tryz.func32 rfl (.tmp rfl .nil) ⟨rfl, hs.frm.ext⟩
end Go.Eng
end
section
namespace Go.Eng
open Go.Proofs
set_option linter.unusedSimpArgs false
set_option linter.unusedVariables false
theorem yC {qs : List QN} {k : Nat} {q : QN} (h : qs[k]? = some q) : qs = qs.take k ++ q :: qs.drop (k + 1) := by
  have hk := (List.getElem?_eq_some_iff.1 h).1
  conv => lhs; rw [← List.take_append_drop k qs, List.drop_eq_getElem_cons hk, (List.getElem?_eq_some_iff.1 h).2]
theorem xS {qs : List QN} {k : Nat} (qn : QN) (hk : k < qs.length) : qs.set k qn = qs.take k ++ qn :: qs.drop (k + 1) := by
  conv => lhs; rw [← List.take_append_drop k qs, List.drop_eq_getElem_cons hk]
  have hl : (qs.take k).length = k := by rw [List.length_take]; omega
  rw [List.set_append_right _ _ (by omega), hl, Nat.sub_self, List.set_cons_zero]
section
variable {w0 w : World} {F : Nat → Prop} {L : List HP}
theorem St.takeN {qs : List QN} {k : Nat} {q : QN} (hq : qs[k]? = some q) (h : St w0 F w (OwnN qs :: L)) : St w0 F w (rowN q :: OwnN (qs.take k ++ qs.drop (k + 1)) :: L) := by
  rw [yC hq] at h
  have := St.outN h
  exact this
theorem St.putN {qs : List QN} {k : Nat} {qn : QN} (hk : k < qs.length) (h : St w0 F w (rowN qn :: OwnN (qs.take k ++ qs.drop (k + 1)) :: L)) : St w0 F w (OwnN (qs.set k qn) :: L) := by
  rw [xS qn hk]
  exact St.inN h
theorem St.replN {qs : List QN} {k : Nat} {q qn : QN} (hq : qs[k]? = some q) (h : St w0 F w (rowN qn :: OwnN qs :: L)) : St w0 F w (OwnN (qs.set k qn) :: L) := by
  have h1 : St w0 F w (OwnN qs :: rowN qn :: L) := h.perm (.swap _ _ _)
  have h2 := St.takeN hq h1
  have h3 : St w0 F w (rowN qn :: OwnN (qs.take k ++ qs.drop (k + 1)) :: L) := (h2.sub (List.sublist_cons_self _ _)).perm (.swap _ _ _)
  exact St.putN (List.getElem?_eq_some_iff.1 hq).1 h3
theorem St.zeroN (b : Bool) (h : St w0 F w L) : St w0 F w (rowN (b, (z0, []), (z0, []), (z0, [])) :: L) := by
  have h1 := ((h.nilRow 93 2).nilRow 93 2).nilRow 29 1
  exact St.packN (q := (b, (z0, []), (z0, []), (z0, []))) h1
end
theorem wM (b : Bool) : okN (b, (z0, []), (z0, []), (z0, [])) := ⟨⟨rfl, fun x h => by cases h⟩, ⟨rfl, fun x h => by cases h⟩, ⟨rfl, fun x h => by cases h⟩⟩
def GOut (w w' : World) (N' : List NM) (a' : Option Addr) (m' c' : Nat) (a2' : Option Addr) (m2 c2 : Nat) : Prop :=
  ∃ (qs : List QN) (es : List Ent) (rs' : List REnt), (qs.map iE = N' ∧ ∀ q ∈ qs, okN q) ∧ (dJ es = true ∧ allM es = eX N') ∧ (N'.length = m' ∧ es.length = m2 ∧ m2 ≤ 1048576) ∧ Fresh w w' [TabN a' m' c' (qs.map rawN), OwnN qs, dL a2' m2 c2 rs', Own rs' es]
theorem xX {N : List NM} {E : List Ent} (h : eR N E = true) {t : List Int} (ht : eC t = true) (hf : fV N t = 0) {v : Int} (hv : 0 ≤ v) : putE E t v = if eW N = 4000 then 6 else 0 := by
  obtain ⟨g, hc, hA⟩ := check_iff.1 h
  have h1 := nR h t
  rw [hf, decide_eq_false (fun e => e rfl)] at h1
  have hp : ¬ 0 ≤ fM E t := fun hp => by
    unfold jT at h1
    rw [if_pos hc, if_neg (by omega)] at h1
    have := congrArg Prod.snd h1
    cases this
  unfold putE
  rw [if_pos hc, if_pos ht, if_neg (by omega), if_neg hp, hA, gN]
theorem wJ {N : List NM} {E es : List Ent} (h : eR N E = true) {t : List Int} (hf : fV N t = 0) (hc : dJ es = true) (hp : (es.filter eH).Perm (allM E ++ [(1, t, (fI N : Int) + 1)])) : allM es = eX (setN N (fI N) (newN t)) := by
  obtain ⟨g, hcE, hA⟩ := check_iff.1 h
  refine aBp hc (rU g.uniq hf) fun e => ?_
  rw [hp.mem_iff, List.mem_append, List.mem_singleton, wE, hA]
theorem jS {E : List Ent} (h : dJ E = true) : LMax E := fun x hx => by have := nG h hx; omega
attribute [local irreducible] Hold J JL JD JX JXat OpR OpG Ret RetV Is Blk Row
set_option maxRecDepth 100000
set_option maxHeartbeats 2000000
theorem gof_r (w : World) (a a2 a3 : Option Addr) (n c n2 c2 n3 c3 : Nat) (N : List NM) (E : List Ent) (t : List Int) (h : Sl fR All w a n c N) (hE0 : Sl dEnt All w a2 n2 c2 E) (ht : Sl dId All w a3 n3 c3 t) (hn : n ≤ 900000) (hn2 : n2 ≤ 1048576) (hz : szN N) (hc : eR N E = true) :
    Ret Tryz.prog 99 #[.agg #[.slice a n c, .slice a2 n2 c2], .slice a3 n3 c3] w fun v w' =>
      (ofC N t ≠ 0 ∧ v = .tuple #[.agg #[.slice none 0 0, .slice none 0 0], .int .i64 0, .int .i64 (ofC N t)] ∧ Ext w w') ∨
      (ofC N t = 0 ∧ ∃ a' m' c' a2' m2 c2', v = .tuple #[.agg #[.slice a' m' c', .slice a2' m2 c2'], .int .i64 (ofn N t), .int .i64 0] ∧ m' ≤ n + 1 ∧ GOut w w' (ofL N t) a' m' c' a2' m2 c2') := by
  refine cE (l := [_, _]) Tryz.func99 rfl Tryz.ntmps99 (by simp) ?_
  have hs := St.init w
  have hl := h.len
  have hl2 := hE0.len
  have hto := mI ht
  have htl := ht.len
  obtain ⟨g, hcE, hA⟩ := check_iff.1 hc
  have hfg := nR hc t
  obtain ⟨tb, htb⟩ : ∃ b, eC t = b := ⟨_, rfl⟩
  obtain ⟨f1, hf1⟩ : ∃ f, fV N t = f := ⟨_, rfl⟩
  rw [hf1] at hfg
  cases tb with
  | false =>
    have e1 : ofC N t = 130 := by unfold ofC; rw [htb]; rfl
    rw [e1]
    repeat' (first | ((apply bC 59; refine JL_o (by exact aF en59 rfl (dZ _ a3 n3 c3 t (ht.st hs))) rfl rfl ?_; rintro _ _ ⟨rfl, hE⟩; rw [htb]; have hs := hs.ext hE; (try simp only [zcc] at hs))) | (apply aT) | ((apply aM); (first | (apply aR; exact aH rfl aA) | (apply aC; exact aB rfl aA) | (apply aL; exact aO rfl rfl rfl aA) | (apply dD; exact cY rfl (by (simp only [bld, dA, cB, Value.cells, List.take_succ_cons, List.take_zero, List.drop_succ_cons, List.drop_zero, List.cons_append, List.nil_append, List.length_cons, List.length_nil, List.getElem?_cons_zero, List.getElem?_cons_succ, Option.map_some, List.append_nil, Nat.reduceAdd, Nat.reduceMul, Nat.zero_add, Nat.reduceLeDiff, and_self, if_true, List.toList_toArray, Nat.le_refl, Nat.zero_mul, Nat.one_mul]; first | done | rfl)) aA)); first | (exact rfl; exact rfl) | exact rfl) | (apply bD) | (apply aG) | (apply aP (t := 2); refine JL_o (by apply cI; exact bS hs rfl) rfl rfl ?_; rintro _ _ ⟨b2, rfl, hb2, hs, hE⟩) | (apply aP (t := 4); refine JL_o (by apply bB; exact aV hs) rfl rfl ?_; rintro _ _ ⟨b4, rfl, hb4, hs, hE⟩) | (apply bK; refine JL_u (by apply bE; exact aX hs rfl rfl rfl) rfl ?_; rintro _ _ ⟨hs, hF⟩) | (apply aS; refine bV rfl gb ?_))
    refine aY Tryz.func99 rfl (.agg' hs rfl rfl (.tmp rfl (.tmp rfl .nil))) (.inl ⟨by decide, rfl, hs.frm.ext⟩)
  | true =>
  by_cases hf0 : f1 = 0
  rotate_left
  · have hfne : fV N t ≠ 0 := by omega
    have e1 : ofC N t = 0 := by unfold ofC; rw [htb, if_pos rfl, if_pos hfne]
    have e2 : ofL N t = N := by unfold ofL; rw [if_pos e1, if_pos hfne]
    have e3 : ofn N t = f1 := by unfold ofn; rw [if_pos e1, if_pos hfne, hf1]
    have hfd : decide (f1 ≠ 0) = true := decide_eq_true hf0
    rw [hfd] at hfg
    rw [e1, e2, e3]
    repeat' (first | ((apply bC 59; refine JL_o (by exact aF en59 rfl (dZ _ a3 n3 c3 t (ht.st hs))) rfl rfl ?_; rintro _ _ ⟨rfl, hE⟩; rw [htb]; have hs := hs.ext hE; (try simp only [zcc] at hs))) | ((apply bC 119; refine JL_o (by exact aF sI rfl (nC _ a2 n2 c2 E a3 n3 c3 t (hE0.st hs) hn2 (ht.st hs))) rfl rfl ?_; rintro _ _ ⟨rfl, hE⟩; rw [hfg]; have hs := hs.ext hE; (try simp only [zcc] at hs))) | ((apply bC 107; refine JL_o (by exact aF aBc rfl (tW _ a a2 n c n2 c2 N E (h.st hs) (hE0.st hs) (by omega) hn2 hz (jS hcE))) rfl rfl ?_; rintro _ _ ⟨qs, rs', a', a2', ⟨hqm, hqo⟩, rfl, hf⟩; have hs := hs.fresh hf; (try simp only [zcc] at hs))) | (apply aT) | ((apply aM); (first | (apply aR; exact aH rfl aA) | (apply aC; exact aB rfl aA) | (apply aQ; exact aK rfl rfl aA) | (apply aW; exact aI hs rfl aA) | (apply aL; exact aO rfl rfl rfl aA) | (apply cK; exact cA rfl rfl aA)); first | (exact rfl; exact rfl) | exact rfl) | (apply bD) | (apply aG) | (apply bH) | (apply aP (t := 2); refine JL_o (by apply cI; exact bS hs rfl) rfl rfl ?_; rintro _ _ ⟨b2, rfl, hb2, hs, hE⟩) | (apply aP (t := 4); refine JL_o (by apply bB; exact aV hs) rfl rfl ?_; rintro _ _ ⟨b4, rfl, hb4, hs, hE⟩) | (apply bK; refine JL_u (by apply bE; exact aX hs rfl rfl rfl) rfl ?_; rintro _ _ ⟨hs, hF⟩) | (apply aS; first | refine bV rfl gb ?_ | refine bW rfl gb ?_))
    refine aY Tryz.func99 rfl (.agg' hs rfl rfl (.tmp rfl (.tmp rfl .nil))) (.inr ⟨rfl, a', n, n, a2', n2, n2, rfl, by omega, qs, E, rs', ⟨hqm, hqo⟩, ⟨hcE, hA⟩, ⟨hl, hl2, hn2⟩, hs.out (by simp)⟩)
  have hfz : fV N t = 0 := by omega
  have hfd : decide (f1 ≠ 0) = false := decide_eq_false (fun e => e hf0)
  rw [hfd] at hfg
  repeat' (first | ((apply bC 59; refine JL_o (by exact aF en59 rfl (dZ _ a3 n3 c3 t (ht.st hs))) rfl rfl ?_; rintro _ _ ⟨rfl, hE⟩; rw [htb]; have hs := hs.ext hE; (try simp only [zcc] at hs))) | ((apply bC 119; refine JL_o (by exact aF sI rfl (nC _ a2 n2 c2 E a3 n3 c3 t (hE0.st hs) hn2 (ht.st hs))) rfl rfl ?_; rintro _ _ ⟨rfl, hE⟩; rw [hfg]; have hs := hs.ext hE; (try simp only [zcc] at hs))) | (apply aT) | ((apply aM); (first | (apply aR; exact aH rfl aA) | (apply aC; exact aB rfl aA) | (apply aQ; exact aK rfl rfl aA) | (apply aW; exact aI hs rfl aA) | (apply aL; exact aO rfl rfl rfl aA) | (apply cK; exact cA rfl rfl aA)); first | (exact rfl; exact rfl) | exact rfl) | (apply bD) | (apply aG) | (apply bA) | (apply bH) | (apply aP (t := 2); refine JL_o (by apply cI; exact bS hs rfl) rfl rfl ?_; rintro _ _ ⟨b2, rfl, hb2, hs, hE⟩) | (apply aP (t := 4); refine JL_o (by apply bB; exact aV hs) rfl rfl ?_; rintro _ _ ⟨b4, rfl, hb4, hs, hE⟩) | (apply aS; refine bW rfl gb ?_))
  refine cZ (α := Nat) [(1, _), (2, _), (4, _)] (fun k => [(9, .int .i64 ((k : Int) + 1))]) (fun k w' => St w NoF w' [Blk b4 (.cells #[.slice none 0 0, .slice none 0 0] 57 (0, 0)), Blk b2 (.cells #[.slice a n c, .slice a2 n2 c2] 57 (0, 0))] ∧ k ≤ n ∧ ∀ (i : Nat) (x : NM), N[i]? = some x → i < k → x.1 = true) (fun k => n - k) 0 ⟨hs, Nat.zero_le _, fun i x _ hi => absurd hi (Nat.not_lt_zero _)⟩ zss ?_
  rintro k w2 ⟨hs1, hk, hall⟩ ih
  have hs : St w NoF w2 [_, _] := hs1
  have hki : inK .i64 ((k : Int) + 1) := by unfold inK; simp only [IntKind.min, IntKind.max, IntKind.bits, IntKind.signed]; omega
  by_cases hgo : isM N ((k : Int) + 1) = true
  · obtain ⟨j, y, hj, hy, hyu⟩ := isM_true.1 hgo
    have hjk : j = k := by omega
    subst hjk
    have hjl := (List.getElem?_eq_some_iff.1 hy).1
    repeat' (first | ((apply bC 105; refine JL_o (by exact aF fE rfl (is_r _ a a2 n c n2 c2 N ((j : Int) + 1) (h.st hs) hki)) rfl rfl ?_; rintro _ _ ⟨rfl, hE⟩; rw [hgo]; have hs := hs.ext hE; (try simp only [zcc] at hs))) | (apply aT) | ((apply aM); (first | (apply aW; first | exact aU hs rfl rfl aA | exact aI hs rfl aA) | (apply aR; exact aH rfl aA) | (apply aC; exact aB rfl aA) | (apply cJ; exact bT rfl rfl (by omega) (by first | (simp only [Int.reduceAdd]; exact rfl) | exact rfl) aA)); first | (exact rfl; exact rfl) | exact rfl) | (apply bD) | (apply aG) | (apply bA) | (apply bP) | (apply bH) | (apply aS; refine bV rfl gb ?_))
    refine ih (j + 1) _ _ ⟨hs, by omega, fun i x hx hi => ?_⟩ (by omega) zss
    by_cases e : i = j
    · subst e; rw [hy] at hx; cases hx; exact hyu
    · exact hall i x hx (by omega)
  have hgo : isM N ((k : Int) + 1) = false := by simpa using hgo
  have hfk : fI N = k := yD (by omega) hall (fun x hx => by
    cases hxu : x.1 with
    | false => rfl
    | true => rw [isM_true.2 ⟨k, x, rfl, hx, hxu⟩] at hgo; cases hgo)
  have hput := xX (v := (k : Int) + 1) hc htb hfz (by omega)
  by_cases hmu : eW N = 4000
  · have e1 : ofC N t = 6 := by unfold ofC; rw [htb, if_pos rfl, if_neg (fun e => e hfz), if_pos hmu]
    rw [if_pos hmu] at hput
    rw [e1]
    repeat' (first | ((apply bC 105; refine JL_o (by exact aF fE rfl (is_r _ a a2 n c n2 c2 N ((k : Int) + 1) (h.st hs) hki)) rfl rfl ?_; rintro _ _ ⟨rfl, hE⟩; rw [hgo]; have hs := hs.ext hE; (try simp only [zcc] at hs))) | ((apply bC 132; refine JL_o (by exact aF en132 rfl (put_bad _ a2 n2 c2 E a3 n3 c3 t ((k : Int) + 1) (hE0.st hs) hn2 (ht.st hs) hki (by rw [hput]; decide))) rfl rfl ?_; rintro _ _ ⟨rfl, hE⟩; rw [hput]; have hs := hs.ext hE; (try simp only [zcc] at hs))) | (apply aT) | ((apply aM); (first | (apply aW; first | exact aU hs rfl rfl aA | exact aI hs rfl aA) | (apply aR; exact aH rfl aA) | (apply aC; exact aB rfl aA) | (apply aQ; exact aK rfl rfl aA) | (apply aL; exact aO rfl rfl rfl aA) | (apply cK; exact cA rfl rfl aA) | (apply dD; exact cY rfl (by (simp only [bld, dA, cB, Value.cells, List.take_succ_cons, List.take_zero, List.drop_succ_cons, List.drop_zero, List.cons_append, List.nil_append, List.length_cons, List.length_nil, List.getElem?_cons_zero, List.getElem?_cons_succ, Option.map_some, List.append_nil, Nat.reduceAdd, Nat.reduceMul, Nat.zero_add, Nat.reduceLeDiff, and_self, if_true, List.toList_toArray, Nat.le_refl, Nat.zero_mul, Nat.one_mul]; first | done | rfl)) aA)); first | (exact rfl; exact rfl) | exact rfl) | (apply bD) | (apply aG) | (apply cF; refine cU rfl ?_) | (apply aP (t := 10); refine JL_o (by apply bB; exact aV hs) rfl rfl ?_; rintro _ _ ⟨b10, rfl, hb10, hs, hE⟩) | (apply bK; refine JL_u (by apply bE; exact aX hs rfl rfl rfl) rfl ?_; rintro _ _ ⟨hs, hF⟩) | (apply aS; first | refine bF rfl ob ?_ | refine bW rfl gb ?_))
    refine aY Tryz.func99 rfl (.agg' hs rfl rfl (.tmp rfl (.tmp rfl .nil))) (.inl ⟨by decide, rfl, hs.frm.ext⟩)
  have e1 : ofC N t = 0 := by unfold ofC; rw [htb, if_pos rfl, if_neg (fun e => e hfz), if_neg hmu]
  have e2 : ofL N t = setN N (fI N) (newN t) := by unfold ofL; rw [if_pos e1, if_neg (fun e => e hfz)]
  have e3 : ofn N t = fI N + 1 := by unfold ofn; rw [if_pos e1, if_neg (fun e => e hfz)]
  rw [if_neg hmu] at hput
  rw [e1, e2, e3, hfk]
  have ht12 := (typeB_iff.1 htb).1
  have ik : ((k : Int) + 1 - 1).toNat = k := by omega
  by_cases hkn : k = n
  · have hgt : (k : Int) + 1 > n := by omega
    have hbnd : 0 ≤ (k : Int) + 1 - 1 ∧ (k : Int) + 1 - 1 < (n + 1 : Nat) := by omega
    repeat' (first | ((apply bC 105; refine JL_o (by exact aF fE rfl (is_r _ a a2 n c n2 c2 N ((k : Int) + 1) (h.st hs) hki)) rfl rfl ?_; rintro _ _ ⟨rfl, hE⟩; rw [hgo]; have hs := hs.ext hE; (try simp only [zcc] at hs))) | ((apply bC 132; refine JL_o (by exact aF en132 rfl (zX _ a2 n2 c2 E a3 n3 c3 t ((k : Int) + 1) (hE0.st hs) hn2 (ht.st hs) hki hput)) rfl rfl ?_; rintro _ _ ⟨es1, rs1, a4, ⟨hce1, hpe1, hle1⟩, rfl, hf⟩; have hs := hs.fresh hf; (try simp only [zcc] at hs))) | ((apply bC 107; refine JL_o (by exact aF aBc rfl (tW _ a a4 n c es1.length es1.length N es1 (h.st hs) (jL hs zmm zmm) (by omega) hle1 hz (jS hce1))) rfl rfl ?_; rintro _ _ ⟨qs, rs', a', a2', ⟨hqm, hqo⟩, rfl, hf⟩; have hs := hs.fresh hf; have hql : qs.length = n := (by have := congrArg List.length hqm; rw [List.length_map] at this; omega); have hset : ∀ u : RNd, cB (encL cNd (qs.map rawN ++ [r00])) (((k : Int) + 1 - 1).toNat * 4) (cNd u) = encL cNd (qs.map rawN ++ [u]) := (fun u => by rw [ik, sG _ _ _ (by rw [List.length_append, List.length_map, hql, hkn]; simp), List.set_append_right _ _ (by rw [List.length_map]; omega), List.length_map, hql, hkn, Nat.sub_self]; rfl); (try simp only [zcc] at hs))) | ((apply ax_c; apply iL 114; exact rfl; (intro W X hN hs; exact aF aBb rfl (lR _ a3 n3 c3 t (ht.st hs) (by omega))); (rintro _ _ _ _ ⟨a9, rfl, hf⟩; first | exact hE | exact Fresh.ext hf); rintro W X _ _ hN hs ⟨a9, rfl, hf⟩; have hs := hs.fresh hf; (try simp only [zcc] at hs); refine JX.at hs ?_)) | ((apply aP (t := 57); refine JL_o (by apply dI; exact dV (xs := encL cNd (qs.map rawN)) (news := cNd r00) hs rfl rfl (wD (r := r00) (hs.blk (b := b56))) dW rfl (by omega) (by unfold maxLen; omega)) rfl rfl ?_; rintro _ _ ⟨a6, c6, rfl, hs, hF, hnil⟩; rw [tZ] at hs; obtain ⟨b, o, rfl⟩ := (hs.row a6 (n + 1) c6).some (by omega))) | ((apply bK; refine JL_u (by apply bE; exact dS (b := b) (o := o) (off := ((k : Int) + 1 - 1).toNat * 4) (n := n + 1) (c := c6) (vs := cNd (rNew (a9, n3, n3))) hs rfl rfl rfl rfl (by simp [Value.oneCell']) (by show ((k : Int) + 1 - 1).toNat * 4 + 4 ≤ (n + 1) * 4; omega)) rfl ?_; rintro _ _ ⟨hs, hF⟩; rw [hset] at hs)) | (apply aT) | ((first | (apply aM) | (apply JX_f; exact rfl; intro W X hs)); (first | (apply aW; first | exact aU hs rfl rfl aA | exact aI hs rfl aA) | (apply aR; exact aH rfl aA) | (apply aC; exact aB rfl aA) | (apply aQ; exact aK rfl rfl aA) | (apply dQ; exact dG rfl rfl (by omega) aA) | (apply aL; exact aO rfl rfl rfl aA) | (apply bM; exact bU rfl aA) | (apply cK; exact cA rfl rfl aA) | (apply aN; exact aJ rfl rfl (by omega) (by omega) aA) | (apply dD; exact cY rfl (by (simp only [bld, dA, cB, Value.cells, List.take_succ_cons, List.take_zero, List.drop_succ_cons, List.drop_zero, List.cons_append, List.nil_append, List.length_cons, List.length_nil, List.getElem?_cons_zero, List.getElem?_cons_succ, Option.map_some, List.append_nil, Nat.reduceAdd, Nat.reduceMul, Nat.zero_add, Nat.reduceLeDiff, and_self, if_true, List.toList_toArray, Nat.le_refl, Nat.zero_mul, Nat.one_mul]; first | done | rfl)) aA)); first | (exact rfl; exact rfl) | exact rfl) | (apply bD) | (apply aG) | (apply cF; refine cU rfl ?_) | (apply bH) | (apply aP (t := 10); refine JL_o (by apply bB; exact aV hs) rfl rfl ?_; rintro _ _ ⟨b10, rfl, hb10, hs, hE⟩) | (apply aP (t := 56); refine JL_o (by apply cQ; exact cM hs rfl (by omega) rfl) rfl rfl ?_; rintro _ _ ⟨b56, rfl, hb56, hs, hE⟩) | (apply bK; refine JL_u (by apply bE; exact aX hs rfl rfl rfl) rfl ?_; rintro _ _ ⟨hs, hF⟩) | (apply aS; first | refine bF rfl ob ?_ | refine bQ rfl ob ?_ | refine bW rfl gb ?_) | (apply cW; (refine cR (id := 16) [0, 1, 0, 4, 0, 16, 48, 127, 255] [(0, 0), (1, 0), (2, 0), (3, 0), (4, 0), (5, 1), (6, 0), (7, 0)] [8] hs dP (by kernel_rfl) (by kernel_rfl) (by kernel_rfl) (by kernel_rfl) (by kernel_rfl) ?_)) | (refine cV (fun W hs => ?_)) | (apply fW; case' hos => (simp only [List.map_cons, List.map_nil, List.getElem?_toArray, List.getElem?_cons_succ, List.getElem?_cons_zero]; repeat' (first | exact gZ | apply fU))))
    obtain ⟨qn, hqn⟩ : ∃ qn : QN, qn = (true, ((a9, n3, n3), t), (z0, []), (z0, [])) := ⟨_, rfl⟩
    have hqnm : iE qn = newN t := by rw [hqn]
    have hqno : okN qn := by rw [hqn]; exact ⟨⟨htl.symm, hto⟩, ⟨rfl, fun x h => by cases h⟩, ⟨rfl, fun x h => by cases h⟩⟩
    have hs := (hs.nilRow 93 2).nilRow 93 2
    have hs := St.packN (q := (true, ((a9, n3, n3), t), (z0, []), (z0, []))) (L := [OwnN qs, _, _, _, _]) (hs.sel [2, 0, 1, 5, 4, 6, 7, 11] (by decide))
    rw [← hqn] at hs
    have hs := St.pushN hs
    have hmp : (qs ++ [qn]).map rawN = qs.map rawN ++ [rNew (a9, n3, n3)] := by rw [List.map_append, hqn]; rfl
    rw [← hmp] at hs
    have hsn : setN N k (newN t) = N ++ [newN t] := by unfold setN; rw [if_neg (by omega)]
    have hents := wJ hc hfz hce1 (by rw [hfk]; exact hpe1)
    rw [hfk] at hents
    refine aY Tryz.func99 rfl (.agg' hs rfl rfl (.tmp rfl (.tmp rfl .nil))) (.inr ⟨rfl, some ⟨b, o, none⟩, n + 1, c6, a2', es1.length, es1.length, rfl, Nat.le_refl _, qs ++ [qn], es1, rs', ⟨by rw [List.map_append, hqm, hsn, ← hqnm]; rfl, fun u hu => ?_⟩, ⟨hce1, hents⟩, ⟨by rw [hsn, List.length_append, hl]; rfl, rfl, hle1⟩, (hs.sel [1, 0, 2, 3] (by decide)).out (List.Sublist.refl _)⟩)
    rcases List.mem_append.1 hu with e | e
    · exact hqo u e
    · rw [List.mem_singleton.1 e]; exact hqno
  · have hgt : ¬ (k : Int) + 1 > n := by omega
    have hbnd : 0 ≤ (k : Int) + 1 - 1 ∧ (k : Int) + 1 - 1 < n := by omega
    repeat' (first | ((apply bC 105; refine JL_o (by exact aF fE rfl (is_r _ a a2 n c n2 c2 N ((k : Int) + 1) (h.st hs) hki)) rfl rfl ?_; rintro _ _ ⟨rfl, hE⟩; rw [hgo]; have hs := hs.ext hE; (try simp only [zcc] at hs))) | ((apply bC 132; refine JL_o (by exact aF en132 rfl (zX _ a2 n2 c2 E a3 n3 c3 t ((k : Int) + 1) (hE0.st hs) hn2 (ht.st hs) hki hput)) rfl rfl ?_; rintro _ _ ⟨es1, rs1, a4, ⟨hce1, hpe1, hle1⟩, rfl, hf⟩; have hs := hs.fresh hf; (try simp only [zcc] at hs))) | ((apply bC 107; refine JL_o (by exact aF aBc rfl (tW _ a a4 n c es1.length es1.length N es1 (h.st hs) (jL hs zmm zmm) (by omega) hle1 hz (jS hce1))) rfl rfl ?_; rintro _ _ ⟨qs, rs', a', a2', ⟨hqm, hqo⟩, rfl, hf⟩; have hs := hs.fresh hf; simp only [zcc] at hs; obtain ⟨b, o, rfl⟩ := (hs.row a' n n).some (by omega); have hql : qs.length = n := (by have := congrArg List.length hqm; rw [List.length_map] at this; omega); have hset : ∀ u : RNd, cB (encL cNd (qs.map rawN)) (((k : Int) + 1 - 1).toNat * 4) (cNd u) = encL cNd ((qs.map rawN).set k u) := (fun u => by rw [ik]; exact sG _ k u (by rw [List.length_map]; omega)); (try simp only [zcc] at hs))) | ((apply ax_c; apply iL 114; exact rfl; (intro W X hN hs; exact aF aBb rfl (lR _ a3 n3 c3 t (ht.st hs) (by omega))); (rintro _ _ _ _ ⟨a9, rfl, hf⟩; first | exact hE | exact Fresh.ext hf); rintro W X _ _ hN hs ⟨a9, rfl, hf⟩; have hs := hs.fresh hf; (try simp only [zcc] at hs); refine JX.at hs ?_)) | ((apply bK; refine JL_u (by apply bE; exact dS (b := b) (o := o) (off := ((k : Int) + 1 - 1).toNat * 4) (n := n) (c := n) (vs := cNd (rNew (a9, n3, n3))) hs rfl rfl rfl rfl (by simp [Value.oneCell']) (by show ((k : Int) + 1 - 1).toNat * 4 + 4 ≤ n * 4; omega)) rfl ?_; rintro _ _ ⟨hs, hF⟩; rw [hset] at hs)) | (apply aT) | ((first | (apply aM) | (apply JX_f; exact rfl; intro W X hs)); (first | (apply aW; first | exact aU hs rfl rfl aA | exact aI hs rfl aA) | (apply aR; exact aH rfl aA) | (apply aC; exact aB rfl aA) | (apply aQ; exact aK rfl rfl aA) | (apply dQ; exact dG rfl rfl (by omega) aA) | (apply aL; exact aO rfl rfl rfl aA) | (apply bM; exact bU rfl aA) | (apply cK; exact cA rfl rfl aA) | (apply aN; exact aJ rfl rfl (by omega) (by omega) aA) | (apply dD; exact cY rfl (by (simp only [bld, dA, cB, Value.cells, List.take_succ_cons, List.take_zero, List.drop_succ_cons, List.drop_zero, List.cons_append, List.nil_append, List.length_cons, List.length_nil, List.getElem?_cons_zero, List.getElem?_cons_succ, Option.map_some, List.append_nil, Nat.reduceAdd, Nat.reduceMul, Nat.zero_add, Nat.reduceLeDiff, and_self, if_true, List.toList_toArray, Nat.le_refl, Nat.zero_mul, Nat.one_mul]; first | done | rfl)) aA)); first | (exact rfl; exact rfl) | exact rfl) | (apply bD) | (apply aG) | (apply cF; refine cU rfl ?_) | (apply bH) | (apply aP (t := 10); refine JL_o (by apply bB; exact aV hs) rfl rfl ?_; rintro _ _ ⟨b10, rfl, hb10, hs, hE⟩) | (apply bK; refine JL_u (by apply bE; exact aX hs rfl rfl rfl) rfl ?_; rintro _ _ ⟨hs, hF⟩) | (apply aS; first | refine bQ rfl ob ?_ | refine bW rfl gb ?_) | (apply cW; (refine cR (id := 16) [0, 1, 0, 4, 0, 16, 48, 127, 255] [(0, 0), (1, 0), (2, 0), (3, 0), (4, 0), (5, 1), (6, 0), (7, 0)] [8] hs dP (by kernel_rfl) (by kernel_rfl) (by kernel_rfl) (by kernel_rfl) (by kernel_rfl) ?_)) | (refine cV (fun W hs => ?_)) | (apply fW; case' hos => (simp only [List.map_cons, List.map_nil, List.getElem?_toArray, List.getElem?_cons_succ, List.getElem?_cons_zero]; repeat' (first | exact gZ | apply fU))))
    obtain ⟨qn, hqn⟩ : ∃ qn : QN, qn = (true, ((a9, n3, n3), t), (z0, []), (z0, [])) := ⟨_, rfl⟩
    have hqnm : iE qn = newN t := by rw [hqn]
    have hqno : okN qn := by rw [hqn]; exact ⟨⟨htl.symm, hto⟩, ⟨rfl, fun x h => by cases h⟩, ⟨rfl, fun x h => by cases h⟩⟩
    have hs := (hs.nilRow 93 2).nilRow 93 2
    have hs := St.packN (q := (true, ((a9, n3, n3), t), (z0, []), (z0, []))) (L := [OwnN qs, _, _, _, _]) (hs.sel [2, 0, 1, 4, 3, 5, 6, 10] (by decide))
    rw [← hqn] at hs
    obtain ⟨q0, hq0⟩ : ∃ q0, qs[k]? = some q0 := ⟨_, List.getElem?_eq_getElem (by omega)⟩
    have hs := St.replN hq0 hs
    have hmp : (qs.set k qn).map rawN = (qs.map rawN).set k (rNew (a9, n3, n3)) := by rw [List.map_set, hqn]
    rw [← hmp] at hs
    have hsn : setN N k (newN t) = N.set k (newN t) := by unfold setN; rw [if_pos (by omega)]
    have hents := wJ hc hfz hce1 (by rw [hfk]; exact hpe1)
    rw [hfk] at hents
    refine aY Tryz.func99 rfl (.agg' hs rfl rfl (.tmp rfl (.tmp rfl .nil))) (.inr ⟨rfl, some ⟨b, o, none⟩, n, n, a2', es1.length, es1.length, rfl, by omega, qs.set k qn, es1, rs', ⟨by rw [List.map_set, hqm, hsn, ← hqnm], fun u hu => ?_⟩, ⟨hce1, hents⟩, ⟨by rw [hsn, List.length_set, hl], rfl, hle1⟩, (hs.sel [1, 0, 2, 3] (by decide)).out (List.Sublist.refl _)⟩)
    rcases List.mem_or_eq_of_mem_set hu with e | e
    · exact hqo u e
    · rw [e]; exact hqno
end Go.Eng
end
section
namespace Go.Eng
open Go.Proofs
set_option linter.unusedSimpArgs false
set_option linter.unusedVariables false
theorem szN_of {N : List NM} {t : List Int} (hz : szN N) (ht : t.length ≤ 1000000) : szN (ofL N t) := by
  unfold ofL
  by_cases h : ofC N t = 0
  · rw [if_pos h]
    by_cases h2 : fV N t ≠ 0
    · rw [if_pos h2]; exact hz
    · rw [if_neg h2]
      intro x hx
      obtain ⟨i, hi⟩ := List.mem_iff_getElem?.1 hx
      rw [kG (gT N)] at hi
      by_cases e : i = fI N
      · rw [if_pos e] at hi; cases hi; exact ⟨ht, by show 0 ≤ 1000000; omega, by show 0 ≤ 1000000; omega⟩
      · rw [if_neg e] at hi; exact hz x (List.mem_of_getElem? hi)
  · rw [if_neg h]; intro x hx; cases hx
theorem wT {N : List NM} {lo hi : Nat} {id : Int} {a b : NM} (ha : N[hi]? = some a) (hb : N[lo]? = some b) : hM N lo hi id = (N.set hi (a.1, a.2.1, a.2.2.1, wiS a.2.2.2 (id, (lo : Int) + 1))).set lo (b.1, b.2.1, wiS b.2.2.1 (id, (hi : Int) + 1), b.2.2.2) := by
  unfold hM
  rw [dN ha, dN hb]
theorem okT_of {id : Int} {k : Nat} (h : okId id) (hk : k ≤ 1000000) : okT (id, (k : Int) + 1) := ⟨h, by show inK .i64 ((k : Int) + 1); unfold inK; simp only [IntKind.min, IntKind.max, IntKind.bits, IntKind.signed]; omega⟩
theorem wiS_ok {l : List ST} {s : ST} (h : ∀ x ∈ l, okT x) (hs : okT s) : ∀ x ∈ wiS l s, okT x := fun x hx => by
  rcases wiS_mem.1 hx with e | e
  · rw [e]; exact hs
  · exact h x e.1
attribute [local irreducible] Hold J JL JD JX JXat OpR OpG Ret RetV Is Blk Row
set_option maxRecDepth 100000
set_option maxHeartbeats 2000000
end Go.Eng
end
section
namespace Go.Eng
open Go.Proofs
set_option linter.unusedSimpArgs false
set_option linter.unusedVariables false
def goE (N : List NM) (E : List Ent) (n id : Int) (plus : Bool) : Int := if eR N E then goC N n id plus else 220
theorem jE {qs : List QN} {k : Nat} {q : QN} (h : ∀ u ∈ qs, okN u) (hq : okN q) : ∀ u ∈ qs.set k q, okN u := fun u hu => by
  rcases List.mem_or_eq_of_mem_set hu with e | e
  · exact h u e
  · rw [e]; exact hq
theorem pH {qs : List QN} {N : List NM} (h : qs.map iE = N) {k : Nat} {x : NM} (hx : N[k]? = some x) : ∃ q, qs[k]? = some q ∧ iE q = x := by
  rw [← h, List.getElem?_map] at hx
  cases hq : qs[k]? with
  | none => rw [hq] at hx; cases hx
  | some q => rw [hq] at hx; exact ⟨q, rfl, Option.some.inj hx⟩
theorem kZ {w0 w : World} {F : Nat → Prop} {L A : List HP} {b : Nat} {o : Obj} (hs : St w0 F w (A ++ L)) (hb : Blk b o ∈ L) : ∀ k, (Star A).foot k → k ≠ b := fun k ⟨c, hc, hk⟩ e => by
  subst e
  exact (List.pairwise_append.1 hs.sep).2.2 c hc _ hb k hk rfl
theorem perm5a {α : Type} (a b c d e : α) (L : List α) : (a :: b :: c :: d :: e :: L).Perm (e :: b :: a :: c :: d :: L) := by
  classical
  rw [List.perm_iff_count]; intro x; simp only [List.count_cons]; omega
theorem perm5b {α : Type} (a b c d e : α) (L : List α) : (a :: b :: c :: d :: e :: L).Perm (e :: c :: a :: b :: d :: L) := by
  classical
  rw [List.perm_iff_count]; intro x; simp only [List.count_cons]; omega
theorem perm5c {α : Type} (a b c d e : α) (L : List α) : (a :: b :: c :: d :: e :: L).Perm (c :: b :: d :: e :: a :: L) := by
  classical
  rw [List.perm_iff_count]; intro x; simp only [List.count_cons]; omega
theorem perm5d {α : Type} (a b c d e : α) (L : List α) : (a :: b :: c :: d :: e :: L).Perm (c :: d :: b :: e :: a :: L) := by
  classical
  rw [List.perm_iff_count]; intro x; simp only [List.count_cons]; omega
theorem aAh (N : List NM) (t : List Int) : (ofL N t).length ≤ N.length + 1 := by
  unfold ofL
  by_cases h : ofC N t = 0
  · rw [if_pos h]
    by_cases h2 : fV N t ≠ 0
    · rw [if_pos h2]; omega
    · rw [if_neg h2, wF (gT N)]
      have := gT N
      split <;> omega
  · rw [if_neg h]; simp
theorem iA {w : World} {b : Nat} {o : Obj} (h : (Blk b o).holds w) : w.heap[b]? = some o := h
theorem rP {N : List NM} (g : GR N) {i : Nat} {x : NM} {plus : Bool} {s : ST} (hs : mU N i x plus s) {q : Nat} {y : NM} {id : Int} (hy : N[q]? = some y) (hu : y.1 = true) (ht : y.2.1 = iD plus x.2.1 id) (e : s.1 = id) : s = (id, (q : Int) + 1) := by
  obtain ⟨_, j, y2, e1, e2, e3, e4, _⟩ := hs
  have : j = q := g.uniq j q y2 y e2 hy e3 hu (by rw [e4, ht, e])
  rw [this] at e1
  exact Prod.ext e e1
theorem rY {q : QN} {x : NM} (h : iE q = x) : q.1 = x.1 ∧ q.2.1.2 = x.2.1 ∧ q.2.2.1.2 = x.2.2.1 ∧ q.2.2.2.2 = x.2.2.2 := by
  subst h; exact ⟨rfl, rfl, rfl, rfl⟩
attribute [local irreducible] Hold J JL JD JX JXat OpR OpG Ret RetV Is Blk Row
set_option maxRecDepth 100000
set_option maxHeartbeats 2000000
theorem aAx (w : World) (a a2 a3 : Option Addr) (n c n2 c2 n3 c3 : Nat) (N : List NM) (E : List Ent) (t : List Int) (h : Sl fR All w a n c N) (hE0 : Sl dEnt All w a2 n2 c2 E) (ht : Sl dId All w a3 n3 c3 t) (hn : n ≤ 900000) (hn2 : n2 ≤ 1048576) (hz : szN N) (hc : eR N E = true) (ho : ofC N t ≠ 0) :
    Ret Tryz.prog 99 #[.agg #[.slice a n c, .slice a2 n2 c2], .slice a3 n3 c3] w fun v w' => v = .tuple #[.agg #[.slice none 0 0, .slice none 0 0], .int .i64 0, .int .i64 (ofC N t)] ∧ Ext w w' :=
  (gof_r w a a2 a3 n c n2 c2 n3 c3 N E t h hE0 ht hn hn2 hz hc).mono fun v w' r => by
    rcases r with ⟨_, r⟩ | ⟨e, _⟩
    · exact r
    · exact absurd e ho
theorem gof_ok (w : World) (a a2 a3 : Option Addr) (n c n2 c2 n3 c3 : Nat) (N : List NM) (E : List Ent) (t : List Int) (h : Sl fR All w a n c N) (hE0 : Sl dEnt All w a2 n2 c2 E) (ht : Sl dId All w a3 n3 c3 t) (hn : n ≤ 900000) (hn2 : n2 ≤ 1048576) (hz : szN N) (hc : eR N E = true) (ho : ofC N t = 0) :
    Ret Tryz.prog 99 #[.agg #[.slice a n c, .slice a2 n2 c2], .slice a3 n3 c3] w fun v w' => ∃ a' m' c' a2' m2 c2', v = .tuple #[.agg #[.slice a' m' c', .slice a2' m2 c2'], .int .i64 (ofn N t), .int .i64 0] ∧ m' ≤ n + 1 ∧ GOut w w' (ofL N t) a' m' c' a2' m2 c2' :=
  (gof_r w a a2 a3 n c n2 c2 n3 c3 N E t h hE0 ht hn hn2 hz hc).mono fun v w' r => by
    rcases r with ⟨e, _⟩ | ⟨_, r⟩
    · exact absurd ho e
    · exact r
theorem aAs (w0 : World) (F : Nat → Prop) (w : World) (L : List HP) (b o n c k p : Nat) (qs : List QN) (q : QN) (x : NM) (id to : Int) (bid : Nat) (hk : k = p) (hs : St w0 F w (OwnN qs :: TabN (some ⟨b, o, none⟩) n c (qs.map rawN) :: L)) (hbl : Blk bid (.cells #[.int .u64 id] 29 (0, 0)) ∈ L)
    (hq : qs[p]? = some q) (hqm : iE q = x) (hqo : okN q) (hid : okId id) (hto : inK .i64 to) (hrise : jP x.2.2.1) (hsame : ∀ s ∈ x.2.2.1, s.1 = id → s = (id, to)) (hln : x.2.2.1.length ≤ 1000000) :
    Ret Tryz.prog 170 #[.pointer (some ⟨b, o + k * 4 + 2, none⟩), .int .i64 to, ptr bid] w fun _ w' => ∃ qn : QN, (iE qn = (x.1, x.2.1, wiS x.2.2.1 (id, to), x.2.2.2) ∧ okN qn) ∧ St w0 F w' (OwnN (qs.set p qn) :: TabN (some ⟨b, o, none⟩) n c ((qs.set p qn).map rawN) :: L) := by
  subst hk
  obtain ⟨hm1, hm2, hm3, hm4⟩ := rY hqm
  have hp := (List.getElem?_eq_some_iff.1 hq).1
  have hlt : (encL cNd (qs.map rawN)).length = n * 4 := (hs.row (some ⟨b, o, none⟩) n c).len
  have hll : qs.length = n := by rw [sH, List.length_map] at hlt; omega
  have hb : w.heap[bid]? = some (.cells #[.int .u64 id] 29 (0, 0)) := iA (hs.all _ (List.mem_cons_of_mem _ (List.mem_cons_of_mem _ hbl)))
  have h1 := St.unpackN (St.takeN hq hs)
  have h2 : St w0 F w ([TabN (some ⟨b, o, none⟩) n c (qs.map rawN), row2 q] ++ ([row1 q, row3 q, OwnN (qs.take k ++ qs.drop (k + 1))] ++ L)) := h1.perm (perm5a _ _ _ _ _ _)
  obtain ⟨⟨o1, o2⟩, ⟨o3, o4⟩, ⟨o5, o6⟩⟩ := hqo
  have hraw : (qs.map rawN)[k]? = some (rawN q) := by rw [List.getElem?_map, hq]; rfl
  have hcell : (encL cNd (qs.map rawN))[k * 4 + 2]? = some (.slice q.2.2.1.1.1 q.2.2.1.1.2.1 q.2.2.1.1.2.2) := by
    rw [show (encL cNd (qs.map rawN))[k * 4 + 2]? = (cNd (rawN q))[2]? from fA (d := dRNd) (qs.map rawN) k 2 (rawN q) hraw (by show 2 < 4; omega)]; rfl
  have hc := gput_r w b o n c (k * 4 + 2) (encL cNd (qs.map rawN)) q.2.2.1.1.1 q.2.2.1.1.2.1 q.2.2.1.1.2.2 q.2.2.1.2 id to bid (St.held (A := [_, _]) h2) hcell (by omega) o3.symm o4 hid hto (by rw [hm3]; exact hrise) (by rw [hm3]; exact hsame) (by rw [o3, hm3]; exact hln) hb (kZ h2 (List.mem_append_right _ hbl))
  refine (show Ret Tryz.prog 170 #[.pointer (some ⟨b, o + k * 4 + 2, none⟩), .int .i64 to, ptr bid] w _ from hc).mono ?_
  rintro _ w' ⟨ra', rc', ht⟩
  have h3 := St.take (A := [_, _]) (A' := [_, _]) h2 ht
  rw [hm3] at h3
  refine ⟨(q.1, q.2.1, ((ra', (wiS x.2.2.1 (id, to)).length, rc'), wiS x.2.2.1 (id, to)), q.2.2.2), ⟨?_, ?_⟩, ?_⟩
  · exact nm_eq.2 ⟨hm1, hm2, rfl, hm4⟩
  · exact ⟨⟨o1, o2⟩, ⟨rfl, wiS_ok (hm3 ▸ o4) ⟨hid, hto⟩⟩, ⟨o5, o6⟩⟩
  · have h4 : St w0 F w' (row1 q :: RowT ra' (wiS x.2.2.1 (id, to)).length rc' (wiS x.2.2.1 (id, to)) :: row3 q :: OwnN (qs.take k ++ qs.drop (k + 1)) :: Row (some ⟨b, o, none⟩) n c 79 4 (cB (encL cNd (qs.map rawN)) (k * 4 + 2) [.slice ra' (wiS x.2.2.1 (id, to)).length rc']) :: L) := h3.perm (perm5c _ _ _ _ _ _)
    have h5 := St.putN (qn := (q.1, q.2.1, ((ra', (wiS x.2.2.1 (id, to)).length, rc'), wiS x.2.2.1 (id, to)), q.2.2.2)) hp (St.packN (q := (q.1, q.2.1, ((ra', (wiS x.2.2.1 (id, to)).length, rc'), wiS x.2.2.1 (id, to)), q.2.2.2)) h4)
    rw [pZ (qs.map rawN) k (rawN q) ra' _ rc' hraw] at h5
    rw [List.map_set]
    exact h5
theorem aAt (w0 : World) (F : Nat → Prop) (w : World) (L : List HP) (b o n c k p : Nat) (qs : List QN) (q : QN) (x : NM) (id to : Int) (bid : Nat) (hk : k = p) (hs : St w0 F w (OwnN qs :: TabN (some ⟨b, o, none⟩) n c (qs.map rawN) :: L)) (hbl : Blk bid (.cells #[.int .u64 id] 29 (0, 0)) ∈ L)
    (hq : qs[p]? = some q) (hqm : iE q = x) (hqo : okN q) (hid : okId id) (hto : inK .i64 to) (hrise : jP x.2.2.2) (hsame : ∀ s ∈ x.2.2.2, s.1 = id → s = (id, to)) (hln : x.2.2.2.length ≤ 1000000) :
    Ret Tryz.prog 170 #[.pointer (some ⟨b, o + k * 4 + 3, none⟩), .int .i64 to, ptr bid] w fun _ w' => ∃ qn : QN, (iE qn = (x.1, x.2.1, x.2.2.1, wiS x.2.2.2 (id, to)) ∧ okN qn) ∧ St w0 F w' (OwnN (qs.set p qn) :: TabN (some ⟨b, o, none⟩) n c ((qs.set p qn).map rawN) :: L) := by
  subst hk
  obtain ⟨hm1, hm2, hm3, hm4⟩ := rY hqm
  have hp := (List.getElem?_eq_some_iff.1 hq).1
  have hlt : (encL cNd (qs.map rawN)).length = n * 4 := (hs.row (some ⟨b, o, none⟩) n c).len
  have hll : qs.length = n := by rw [sH, List.length_map] at hlt; omega
  have hb : w.heap[bid]? = some (.cells #[.int .u64 id] 29 (0, 0)) := iA (hs.all _ (List.mem_cons_of_mem _ (List.mem_cons_of_mem _ hbl)))
  have h1 := St.unpackN (St.takeN hq hs)
  have h2 : St w0 F w ([TabN (some ⟨b, o, none⟩) n c (qs.map rawN), row3 q] ++ ([row1 q, row2 q, OwnN (qs.take k ++ qs.drop (k + 1))] ++ L)) := h1.perm (perm5b _ _ _ _ _ _)
  obtain ⟨⟨o1, o2⟩, ⟨o3, o4⟩, ⟨o5, o6⟩⟩ := hqo
  have hraw : (qs.map rawN)[k]? = some (rawN q) := by rw [List.getElem?_map, hq]; rfl
  have hcell : (encL cNd (qs.map rawN))[k * 4 + 3]? = some (.slice q.2.2.2.1.1 q.2.2.2.1.2.1 q.2.2.2.1.2.2) := by
    rw [show (encL cNd (qs.map rawN))[k * 4 + 3]? = (cNd (rawN q))[3]? from fA (d := dRNd) (qs.map rawN) k 3 (rawN q) hraw (by show 3 < 4; omega)]; rfl
  have hc := gput_r w b o n c (k * 4 + 3) (encL cNd (qs.map rawN)) q.2.2.2.1.1 q.2.2.2.1.2.1 q.2.2.2.1.2.2 q.2.2.2.2 id to bid (St.held (A := [_, _]) h2) hcell (by omega) o5.symm o6 hid hto (by rw [hm4]; exact hrise) (by rw [hm4]; exact hsame) (by rw [o5, hm4]; exact hln) hb (kZ h2 (List.mem_append_right _ hbl))
  refine (show Ret Tryz.prog 170 #[.pointer (some ⟨b, o + k * 4 + 3, none⟩), .int .i64 to, ptr bid] w _ from hc).mono ?_
  rintro _ w' ⟨ra', rc', ht⟩
  have h3 := St.take (A := [_, _]) (A' := [_, _]) h2 ht
  rw [hm4] at h3
  refine ⟨(q.1, q.2.1, q.2.2.1, ((ra', (wiS x.2.2.2 (id, to)).length, rc'), wiS x.2.2.2 (id, to))), ⟨?_, ?_⟩, ?_⟩
  · exact nm_eq.2 ⟨hm1, hm2, hm3, rfl⟩
  · exact ⟨⟨o1, o2⟩, ⟨o3, o4⟩, ⟨rfl, wiS_ok (hm4 ▸ o6) ⟨hid, hto⟩⟩⟩
  · have h4 : St w0 F w' (row1 q :: row2 q :: RowT ra' (wiS x.2.2.2 (id, to)).length rc' (wiS x.2.2.2 (id, to)) :: OwnN (qs.take k ++ qs.drop (k + 1)) :: Row (some ⟨b, o, none⟩) n c 79 4 (cB (encL cNd (qs.map rawN)) (k * 4 + 3) [.slice ra' (wiS x.2.2.2 (id, to)).length rc']) :: L) := h3.perm (perm5d _ _ _ _ _ _)
    have h5 := St.putN (qn := (q.1, q.2.1, q.2.2.1, ((ra', (wiS x.2.2.2 (id, to)).length, rc'), wiS x.2.2.2 (id, to)))) hp (St.packN (q := (q.1, q.2.1, q.2.2.1, ((ra', (wiS x.2.2.2 (id, to)).length, rc'), wiS x.2.2.2 (id, to)))) h4)
    rw [pY (qs.map rawN) k (rawN q) ra' _ rc' hraw] at h5
    rw [List.map_set]
    exact h5
theorem aAv (w : World) (a a2 : Option Addr) (n c n2 c2 : Nat) (N : List NM) (E : List Ent) (X0 id : Int) (h : Sl fR All w a n c N) (hE0 : Sl dEnt All w a2 n2 c2 E) (hn : n ≤ 900000) (hn2 : n2 ≤ 1048576) (hz : szN N) (hx0 : inK .i64 X0) (hid : okId id) :
    Ret Tryz.prog 100 #[.agg #[.slice a n c, .slice a2 n2 c2], .int .i64 X0, .int .u64 id, .bool true, .func (.func 45) #[] #[]] w fun v w' =>
      (goE N E X0 id true ≠ 0 ∧ v = .tuple #[.agg #[.slice none 0 0, .slice none 0 0], .int .i64 0, .int .i64 (goE N E X0 id true)] ∧ Ext w w') ∨
      (goE N E X0 id true = 0 ∧ ∃ a' m' c' a2' m2 c2', v = .tuple #[.agg #[.slice a' m' c', .slice a2' m2 c2'], .int .i64 (gon N X0 id true), .int .i64 0] ∧ m' ≤ n + 1 ∧ GOut w w' (goL N X0 id true) a' m' c' a2' m2 c2') := by
  refine cE (l := [_, _, _, _, _]) Tryz.func100 rfl Tryz.ntmps100 (by simp) ?_
  have hs := St.init w
  have hl := h.len
  have hl2 := hE0.len
  obtain ⟨rs, hr, hm⟩ := Sl.raw (D := jC) h
  cases hc : eR N E with
  | false =>
    have he := gU hc
    have eE : goE N E X0 id true = 220 := by unfold goE; rw [hc]; rfl
    rw [eE]
    repeat' (first | ((apply bC 46; refine JL_o (by exact aF en46 rfl (eG _ a a2 n c n2 c2 N E (h.st hs) (hE0.st hs) hn2 hz)) rfl rfl ?_; rintro _ _ ⟨rfl, hE⟩; rw [he]; have hs := hs.ext hE; (try simp only [zcc] at hs))) | (apply aT) | ((apply aM); (first | (apply aW; first | exact aU hs rfl rfl aA | exact aI hs rfl aA) | (apply aR; exact aH rfl aA) | (apply aC; exact aB rfl aA) | (apply aL; exact aO rfl rfl rfl aA) | (apply dD; exact cY rfl (by (simp only [bld, dA, cB, Value.cells, List.take_succ_cons, List.take_zero, List.drop_succ_cons, List.drop_zero, List.cons_append, List.nil_append, List.length_cons, List.length_nil, List.getElem?_cons_zero, List.getElem?_cons_succ, Option.map_some, List.append_nil, Nat.reduceAdd, Nat.reduceMul, Nat.zero_add, Nat.reduceLeDiff, and_self, if_true, List.toList_toArray, Nat.le_refl, Nat.zero_mul, Nat.one_mul]; first | done | rfl)) aA)); first | (exact rfl; exact rfl) | exact rfl) | (apply bD) | (apply aG) | (apply aP (t := 5); refine JL_o (by apply cI; exact bS hs rfl) rfl rfl ?_; rintro _ _ ⟨b5, rfl, hb5, hs, hE⟩) | (apply aP (t := 7); refine JL_o (by apply cI; exact bS hs rfl) rfl rfl ?_; rintro _ _ ⟨b7, rfl, hb7, hs, hE⟩) | (apply aP (t := 10); refine JL_o (by apply bB; exact aV hs) rfl rfl ?_; rintro _ _ ⟨b10, rfl, hb10, hs, hE⟩) | (apply bK; refine JL_u (by apply bE; exact aX hs rfl rfl rfl) rfl ?_; rintro _ _ ⟨hs, hF⟩) | (apply aS; refine bF rfl ob ?_))
    refine aY Tryz.func100 rfl (.agg' hs rfl rfl (.tmp rfl (.tmp rfl .nil))) (.inl ⟨by decide, rfl, hs.frm.ext⟩)
  | true =>
  have he := lN hc
  obtain ⟨g, hcE, hA⟩ := check_iff.1 hc
  have eE : goE N E X0 id true = goC N X0 id true := by unfold goE; rw [hc]; rfl
  rw [eE]
  cases hi : isM N X0 with
  | false =>
    have e1 : goC N X0 id true = 2 := by unfold goC; rw [hi]; rfl
    rw [e1]
    repeat' (first | ((apply bC 46; refine JL_o (by exact aF en46 rfl (eG _ a a2 n c n2 c2 N E (h.st hs) (hE0.st hs) hn2 hz)) rfl rfl ?_; rintro _ _ ⟨rfl, hE⟩; rw [he]; have hs := hs.ext hE; (try simp only [zcc] at hs))) | ((apply bC 105; refine JL_o (by exact aF fE rfl (is_r _ a a2 n c n2 c2 N X0 (h.st hs) hx0)) rfl rfl ?_; rintro _ _ ⟨rfl, hE⟩; rw [hi]; have hs := hs.ext hE; (try simp only [zcc] at hs))) | (apply aT) | ((apply aM); (first | (apply aW; first | exact aU hs rfl rfl aA | exact aI hs rfl aA) | (apply aR; exact aH rfl aA) | (apply aC; exact aB rfl aA) | (apply aL; exact aO rfl rfl rfl aA) | (apply bX; exact bY rfl aA) | (apply dD; exact cY rfl (by (simp only [bld, dA, cB, Value.cells, List.take_succ_cons, List.take_zero, List.drop_succ_cons, List.drop_zero, List.cons_append, List.nil_append, List.length_cons, List.length_nil, List.getElem?_cons_zero, List.getElem?_cons_succ, Option.map_some, List.append_nil, Nat.reduceAdd, Nat.reduceMul, Nat.zero_add, Nat.reduceLeDiff, and_self, if_true, List.toList_toArray, Nat.le_refl, Nat.zero_mul, Nat.one_mul]; first | done | rfl)) aA)); first | (exact rfl; exact rfl) | exact rfl) | (apply bD) | (apply aG) | (apply bH) | (apply aP (t := 5); refine JL_o (by apply cI; exact bS hs rfl) rfl rfl ?_; rintro _ _ ⟨b5, rfl, hb5, hs, hE⟩) | (apply aP (t := 7); refine JL_o (by apply cI; exact bS hs rfl) rfl rfl ?_; rintro _ _ ⟨b7, rfl, hb7, hs, hE⟩) | (apply aP (t := 10); refine JL_o (by apply bB; exact aV hs) rfl rfl ?_; rintro _ _ ⟨b10, rfl, hb10, hs, hE⟩) | (apply bK; refine JL_u (by apply bE; exact aX hs rfl rfl rfl) rfl ?_; rintro _ _ ⟨hs, hF⟩) | (apply aS; first | refine bQ rfl ob ?_ | refine bV rfl gb ?_))
    refine aY Tryz.func100 rfl (.agg' hs rfl rfl (.tmp rfl (.tmp rfl .nil))) (.inl ⟨by decide, rfl, hs.frm.ext⟩)
  | true =>
  obtain ⟨p, x, rfl, hxp, hxu⟩ := isM_true.1 hi
  have hpl := (List.getElem?_eq_some_iff.1 hxp).1
  have hnd : dY N ((p : Int) + 1) = x := dM hxp
  obtain ⟨r0, hr0, hrel0⟩ := hm.get hxp
  obtain ⟨u1, mT, u3, u4⟩ := kU hrel0
  have mTl := mT.len
  have hTy := g.typ p x hxp hxu
  obtain ⟨hT12, hTr, _⟩ := typeB_iff.1 hTy
  have hr0' : rs[((p : Int) + 1 - 1).toNat]? = some r0 := by rw [show ((p : Int) + 1 - 1).toNat = p by omega]; exact hr0
  have hbx : 0 ≤ (p : Int) + 1 - 1 ∧ (p : Int) + 1 - 1 < n := by omega
  obtain ⟨b0, o0, rfl⟩ := hr.sl.addr (by omega)
  have hgc : goC N ((p : Int) + 1) id true = (if mayM id then (if id ∈ x.2.1 then 0 else if x.2.1.length = 12 then 6 else ofC N (wiT x.2.1 id)) else 2) := by unfold goC; rw [hi, if_pos rfl, hnd]; rfl
  have hst : oI N ((p : Int) + 1) id true = decide (id ∈ x.2.1) := by unfold oI; rw [hnd]; rfl
  cases hmay : mayM id with
  | false =>
    rw [hmay, if_neg (by decide)] at hgc
    have hwC : iJ x.2.1 id = 2 := by unfold iJ; rw [if_pos hTy, if_neg (by rw [hmay]; decide)]
    have hwL : gQ x.2.1 id = [] := by unfold gQ; rw [hwC]; rfl
    rw [hgc]
    repeat' (first | ((apply bC 46; refine JL_o (by exact aF en46 rfl (eG _ (some ⟨b0, o0, none⟩) a2 n c n2 c2 N E (h.st hs) (hE0.st hs) hn2 hz)) rfl rfl ?_; rintro _ _ ⟨rfl, hE⟩; rw [he]; have hs := hs.ext hE; (try simp only [zcc] at hs))) | ((apply bC 105; refine JL_o (by exact aF fE rfl (is_r _ (some ⟨b0, o0, none⟩) a2 n c n2 c2 N ((p : Int) + 1) (h.st hs) hx0)) rfl rfl ?_; rintro _ _ ⟨rfl, hE⟩; rw [hi]; have hs := hs.ext hE; (try simp only [zcc] at hs))) | ((apply aP (t := 43); refine JL_o (cX rfl rfl (Ret.value (cap := #[]) en45 (mQ _ r0.2.1.1 r0.2.1.2.1 r0.2.1.2.2 x.2.1 id (mT.st hs) hid))) rfl rfl ?_; rintro _ _ ⟨aw, rfl, hf⟩; rw [hwL] at hf; rw [hwC, hwL]; have hs := hs.fresh hf; (try simp only [zcc] at hs))) | (apply aT) | ((apply aM); (first | (apply aW; first | exact aU hs rfl rfl aA | exact aI hs rfl aA | exact bJ (i := ((p : Int) + 1 - 1).toNat) (j := 1) (hr.st hs) hr0' rfl rfl rfl aA) | (apply aR; exact aH rfl aA) | (apply aC; exact aB rfl aA) | (apply aQ; first | exact aK rfl rfl aA | exact bN rfl rfl aA) | (apply dQ; exact dG rfl rfl (by omega) aA) | (apply aL; exact aO rfl rfl rfl aA) | (apply bX; exact bY rfl aA) | (apply cK; exact cA rfl rfl aA) | (apply aN; exact aJ rfl rfl (by omega) (by omega) aA) | (apply dD; exact cY rfl (by (simp only [bld, dA, cB, Value.cells, List.take_succ_cons, List.take_zero, List.drop_succ_cons, List.drop_zero, List.cons_append, List.nil_append, List.length_cons, List.length_nil, List.getElem?_cons_zero, List.getElem?_cons_succ, Option.map_some, List.append_nil, Nat.reduceAdd, Nat.reduceMul, Nat.zero_add, Nat.reduceLeDiff, and_self, if_true, List.toList_toArray, Nat.le_refl, Nat.zero_mul, Nat.one_mul]; first | done | rfl)) aA)); first | (exact rfl; exact rfl) | exact rfl) | (apply bD) | (apply aG) | (apply bH) | (apply aP (t := 5); refine JL_o (by apply cI; exact bS hs rfl) rfl rfl ?_; rintro _ _ ⟨b5, rfl, hb5, hs, hE⟩) | (apply aP (t := 7); refine JL_o (by apply cI; exact bS hs rfl) rfl rfl ?_; rintro _ _ ⟨b7, rfl, hb7, hs, hE⟩) | (apply aP (t := 10); refine JL_o (by apply bB; exact aV hs) rfl rfl ?_; rintro _ _ ⟨b10, rfl, hb10, hs, hE⟩) | (apply bK; refine JL_u (by apply bE; exact aX hs rfl rfl rfl) rfl ?_; rintro _ _ ⟨hs, hF⟩) | (apply aS; first | refine bF rfl ob ?_ | refine bQ rfl ob ?_ | refine bW rfl gb ?_))
    refine aY Tryz.func100 rfl (.agg' hs rfl rfl (.tmp rfl (.tmp rfl .nil))) (.inl ⟨by decide, rfl, hs.frm.ext⟩)
  | true =>
  rw [hmay, if_pos rfl] at hgc
  by_cases hin : id ∈ x.2.1
  · rw [if_pos hin] at hgc
    have hins : insT x.2.1 id = x.2.1 := by unfold insT; rw [if_pos hin]
    have hwC : iJ x.2.1 id = 0 := by unfold iJ; rw [if_pos hTy, if_pos hmay, hins, if_neg (by omega)]
    have hwL : gQ x.2.1 id = x.2.1 := by unfold gQ; rw [if_pos hwC, hins]
    have e2 : gon N ((p : Int) + 1) id true = (p : Int) + 1 := by unfold gon; rw [if_pos hgc, if_pos (by rw [hst, decide_eq_true hin])]
    have e3 : goL N ((p : Int) + 1) id true = N := by unfold goL; rw [if_pos hgc, if_pos (by rw [hst, decide_eq_true hin])]
    have heq : decide (x.2.1 = x.2.1) = true := decide_eq_true rfl
    rw [hgc, e2, e3]
    repeat' (first | ((apply bC 46; refine JL_o (by exact aF en46 rfl (eG _ (some ⟨b0, o0, none⟩) a2 n c n2 c2 N E (h.st hs) (hE0.st hs) hn2 hz)) rfl rfl ?_; rintro _ _ ⟨rfl, hE⟩; rw [he]; have hs := hs.ext hE; (try simp only [zcc] at hs))) | ((apply bC 105; refine JL_o (by exact aF fE rfl (is_r _ (some ⟨b0, o0, none⟩) a2 n c n2 c2 N ((p : Int) + 1) (h.st hs) hx0)) rfl rfl ?_; rintro _ _ ⟨rfl, hE⟩; rw [hi]; have hs := hs.ext hE; (try simp only [zcc] at hs))) | ((apply aP (t := 43); refine JL_o (cX rfl rfl (Ret.value (cap := #[]) en45 (mQ _ r0.2.1.1 r0.2.1.2.1 r0.2.1.2.2 x.2.1 id (mT.st hs) hid))) rfl rfl ?_; rintro _ _ ⟨aw, rfl, hf⟩; rw [hwL] at hf; rw [hwC, hwL]; have hs := hs.fresh hf; (try simp only [zcc] at hs))) | ((apply bC 43; refine JL_o (by exact aF en43 rfl (eU _ aw r0.2.1.1 x.2.1.length x.2.1.length r0.2.1.2.1 r0.2.1.2.2 x.2.1 x.2.1 (slU hs zmm (mI mT)) (mT.st hs))) rfl rfl ?_; rintro _ _ ⟨rfl, hE⟩; rw [heq]; have hs := hs.ext hE; (try simp only [zcc] at hs))) | ((apply bC 107; refine JL_o (by exact aF aBc rfl (tW _ (some ⟨b0, o0, none⟩) a2 n c n2 c2 N E (h.st hs) (hE0.st hs) (by omega) hn2 hz (jS hcE))) rfl rfl ?_; rintro _ _ ⟨qs, rs', a', a2', ⟨hqm, hqo⟩, rfl, hf⟩; have hs := hs.fresh hf; (try simp only [zcc] at hs))) | (apply aT) | ((apply aM); (first | (apply aW; first | exact aU hs rfl rfl aA | exact aI hs rfl aA | exact bJ (i := ((p : Int) + 1 - 1).toNat) (j := 1) (hr.st hs) hr0' rfl rfl rfl aA) | (apply aR; exact aH rfl aA) | (apply aC; exact aB rfl aA) | (apply aQ; first | exact aK rfl rfl aA | exact bN rfl rfl aA) | (apply dQ; exact dG rfl rfl (by omega) aA) | (apply aL; exact aO rfl rfl rfl aA) | (apply bX; exact bY rfl aA) | (apply cK; exact cA rfl rfl aA) | (apply aN; exact aJ rfl rfl (by omega) (by omega) aA)); first | (exact rfl; exact rfl) | exact rfl) | (apply bD) | (apply aG) | (apply bH) | (apply aP (t := 5); refine JL_o (by apply cI; exact bS hs rfl) rfl rfl ?_; rintro _ _ ⟨b5, rfl, hb5, hs, hE⟩) | (apply aP (t := 7); refine JL_o (by apply cI; exact bS hs rfl) rfl rfl ?_; rintro _ _ ⟨b7, rfl, hb7, hs, hE⟩) | (apply aP (t := 10); refine JL_o (by apply bB; exact aV hs) rfl rfl ?_; rintro _ _ ⟨b10, rfl, hb10, hs, hE⟩) | (apply bK; refine JL_u (by apply bE; exact aX hs rfl rfl rfl) rfl ?_; rintro _ _ ⟨hs, hF⟩) | (apply aS; first | refine bQ rfl ob ?_ | refine bV rfl gb ?_ | refine bW rfl gb ?_))
    refine aY Tryz.func100 rfl (.agg' hs rfl rfl (.tmp rfl (.tmp rfl .nil))) (.inr ⟨rfl, a', n, n, a2', n2, n2, rfl, by omega, qs, E, rs', ⟨hqm, hqo⟩, ⟨hcE, hA⟩, ⟨hl, hl2, hn2⟩, hs.out (by simp)⟩)
  rw [if_neg hin] at hgc
  by_cases h12 : x.2.1.length = 12
  · rw [if_pos h12] at hgc
    have hwC : iJ x.2.1 id = 6 := by unfold iJ; rw [if_pos hTy, if_pos hmay, if_pos (by rw [pS hTr, oZ hin]; omega)]
    have hwL : gQ x.2.1 id = [] := by unfold gQ; rw [hwC]; rfl
    rw [hgc]
    repeat' (first | ((apply bC 46; refine JL_o (by exact aF en46 rfl (eG _ (some ⟨b0, o0, none⟩) a2 n c n2 c2 N E (h.st hs) (hE0.st hs) hn2 hz)) rfl rfl ?_; rintro _ _ ⟨rfl, hE⟩; rw [he]; have hs := hs.ext hE; (try simp only [zcc] at hs))) | ((apply bC 105; refine JL_o (by exact aF fE rfl (is_r _ (some ⟨b0, o0, none⟩) a2 n c n2 c2 N ((p : Int) + 1) (h.st hs) hx0)) rfl rfl ?_; rintro _ _ ⟨rfl, hE⟩; rw [hi]; have hs := hs.ext hE; (try simp only [zcc] at hs))) | ((apply aP (t := 43); refine JL_o (cX rfl rfl (Ret.value (cap := #[]) en45 (mQ _ r0.2.1.1 r0.2.1.2.1 r0.2.1.2.2 x.2.1 id (mT.st hs) hid))) rfl rfl ?_; rintro _ _ ⟨aw, rfl, hf⟩; rw [hwL] at hf; rw [hwC, hwL]; have hs := hs.fresh hf; (try simp only [zcc] at hs))) | (apply aT) | ((apply aM); (first | (apply aW; first | exact aU hs rfl rfl aA | exact aI hs rfl aA | exact bJ (i := ((p : Int) + 1 - 1).toNat) (j := 1) (hr.st hs) hr0' rfl rfl rfl aA) | (apply aR; exact aH rfl aA) | (apply aC; exact aB rfl aA) | (apply aQ; first | exact aK rfl rfl aA | exact bN rfl rfl aA) | (apply dQ; exact dG rfl rfl (by omega) aA) | (apply aL; exact aO rfl rfl rfl aA) | (apply bX; exact bY rfl aA) | (apply cK; exact cA rfl rfl aA) | (apply aN; exact aJ rfl rfl (by omega) (by omega) aA) | (apply dD; exact cY rfl (by (simp only [bld, dA, cB, Value.cells, List.take_succ_cons, List.take_zero, List.drop_succ_cons, List.drop_zero, List.cons_append, List.nil_append, List.length_cons, List.length_nil, List.getElem?_cons_zero, List.getElem?_cons_succ, Option.map_some, List.append_nil, Nat.reduceAdd, Nat.reduceMul, Nat.zero_add, Nat.reduceLeDiff, and_self, if_true, List.toList_toArray, Nat.le_refl, Nat.zero_mul, Nat.one_mul]; first | done | rfl)) aA)); first | (exact rfl; exact rfl) | exact rfl) | (apply bD) | (apply aG) | (apply bH) | (apply aP (t := 5); refine JL_o (by apply cI; exact bS hs rfl) rfl rfl ?_; rintro _ _ ⟨b5, rfl, hb5, hs, hE⟩) | (apply aP (t := 7); refine JL_o (by apply cI; exact bS hs rfl) rfl rfl ?_; rintro _ _ ⟨b7, rfl, hb7, hs, hE⟩) | (apply aP (t := 10); refine JL_o (by apply bB; exact aV hs) rfl rfl ?_; rintro _ _ ⟨b10, rfl, hb10, hs, hE⟩) | (apply bK; refine JL_u (by apply bE; exact aX hs rfl rfl rfl) rfl ?_; rintro _ _ ⟨hs, hF⟩) | (apply aS; first | refine bF rfl ob ?_ | refine bQ rfl ob ?_ | refine bW rfl gb ?_))
    refine aY Tryz.func100 rfl (.agg' hs rfl rfl (.tmp rfl (.tmp rfl .nil))) (.inl ⟨by decide, rfl, hs.frm.ext⟩)
  rw [if_neg h12] at hgc
  obtain ⟨ZL, hZL⟩ : ∃ z, z = wiT x.2.1 id := ⟨_, rfl⟩
  have hwC : iJ x.2.1 id = 0 := by unfold iJ; rw [if_pos hTy, if_pos hmay, if_neg (by rw [pS hTr, oZ hin]; omega)]
  have hwL : gQ x.2.1 id = ZL := by unfold gQ; rw [if_pos hwC, pS hTr, hZL]
  have hZo : ∀ u ∈ ZL, okId u := by rw [hZL]; exact (fun u hu => (wiT_mem.1 hu).elim (fun e => e ▸ hid) (fun e => mI mT u e))
  have hZl : ZL.length ≤ 1000000 := by rw [hZL, oZ hin]; omega
  have hne0 : ZL ≠ x.2.1 := fun e => hin (by rw [← e, hZL]; exact wiT_mem.2 (.inl rfl))
  have hsf : oI N ((p : Int) + 1) id true = false := by rw [hst, decide_eq_false hin]
  rw [← hZL] at hgc
  have hzeq : decide (ZL = x.2.1) = false := decide_eq_false hne0
  obtain ⟨oc, hoc⟩ : ∃ e, ofC N ZL = e := ⟨_, rfl⟩
  by_cases ho0 : oc ≠ 0
  · rw [hgc, hoc]
    repeat' (first | ((apply bC 46; refine JL_o (by exact aF en46 rfl (eG _ (some ⟨b0, o0, none⟩) a2 n c n2 c2 N E (h.st hs) (hE0.st hs) hn2 hz)) rfl rfl ?_; rintro _ _ ⟨rfl, hE⟩; rw [he]; have hs := hs.ext hE; (try simp only [zcc] at hs))) | ((apply bC 105; refine JL_o (by exact aF fE rfl (is_r _ (some ⟨b0, o0, none⟩) a2 n c n2 c2 N ((p : Int) + 1) (h.st hs) hx0)) rfl rfl ?_; rintro _ _ ⟨rfl, hE⟩; rw [hi]; have hs := hs.ext hE; (try simp only [zcc] at hs))) | ((apply aP (t := 43); refine JL_o (cX rfl rfl (Ret.value (cap := #[]) en45 (mQ _ r0.2.1.1 r0.2.1.2.1 r0.2.1.2.2 x.2.1 id (mT.st hs) hid))) rfl rfl ?_; rintro _ _ ⟨aw, rfl, hf⟩; rw [hwL] at hf; rw [hwC, hwL]; have hs := hs.fresh hf; (try simp only [zcc] at hs))) | ((apply bC 43; refine JL_o (by exact aF en43 rfl (eU _ aw r0.2.1.1 ZL.length ZL.length r0.2.1.2.1 r0.2.1.2.2 ZL x.2.1 (slU hs zmm hZo) (mT.st hs))) rfl rfl ?_; rintro _ _ ⟨rfl, hE⟩; rw [hzeq]; have hs := hs.ext hE; (try simp only [zcc] at hs))) | ((apply bC 99; refine JL_o (by exact aF en99 rfl (aAx _ (some ⟨b0, o0, none⟩) a2 aw n c n2 c2 ZL.length ZL.length N E ZL (h.st hs) (hE0.st hs) (slU hs zmm hZo) hn hn2 hz hc (by rw [hoc]; exact ho0))) rfl rfl ?_; rintro _ _ ⟨rfl, hE⟩; rw [hoc]; have hs := hs.ext hE; (try simp only [zcc] at hs))) | (apply aT) | ((apply aM); (first | (apply aW; first | exact aU hs rfl rfl aA | exact aI hs rfl aA | exact bJ (i := ((p : Int) + 1 - 1).toNat) (j := 1) (hr.st hs) hr0' rfl rfl rfl aA) | (apply aR; exact aH rfl aA) | (apply aC; exact aB rfl aA) | (apply aQ; first | exact aK rfl rfl aA | exact bN rfl rfl aA) | (apply dQ; exact dG rfl rfl (by omega) aA) | (apply aL; exact aO rfl rfl rfl aA) | (apply bX; exact bY rfl aA) | (apply cK; exact cA rfl rfl aA) | (apply aN; exact aJ rfl rfl (by omega) (by omega) aA) | (apply dD; exact cY rfl (by (simp only [bld, dA, cB, Value.cells, List.take_succ_cons, List.take_zero, List.drop_succ_cons, List.drop_zero, List.cons_append, List.nil_append, List.length_cons, List.length_nil, List.getElem?_cons_zero, List.getElem?_cons_succ, Option.map_some, List.append_nil, Nat.reduceAdd, Nat.reduceMul, Nat.zero_add, Nat.reduceLeDiff, and_self, if_true, List.toList_toArray, Nat.le_refl, Nat.zero_mul, Nat.one_mul]; first | done | rfl)) aA)); first | (exact rfl; exact rfl) | exact rfl) | (apply bD) | (apply aG) | (apply bH) | (apply aP (t := 5); refine JL_o (by apply cI; exact bS hs rfl) rfl rfl ?_; rintro _ _ ⟨b5, rfl, hb5, hs, hE⟩) | (apply aP (t := 7); refine JL_o (by apply cI; exact bS hs rfl) rfl rfl ?_; rintro _ _ ⟨b7, rfl, hb7, hs, hE⟩) | (apply aP (t := 10); refine JL_o (by apply bB; exact aV hs) rfl rfl ?_; rintro _ _ ⟨b10, rfl, hb10, hs, hE⟩) | (apply bK; refine JL_u (by apply bE; exact aX hs rfl rfl rfl) rfl ?_; rintro _ _ ⟨hs, hF⟩) | (apply aS; first | refine bF rfl ob ?_ | refine bQ rfl ob ?_ | refine bW rfl gb ?_))
    refine aY Tryz.func100 rfl (.agg' hs rfl rfl (.tmp rfl (.tmp rfl .nil))) (.inl ⟨ho0, rfl, hs.frm.ext⟩)
  have hgz0 : ofC N ZL = 0 := by rw [hoc]; exact Decidable.not_not.1 ho0
  have hgz : goC N ((p : Int) + 1) id true = 0 := by rw [hgc, hgz0]
  obtain ⟨p2, q, x2, y, hg⟩ : ∃ (p2 q : Nat) (x2 y : NM), Gone N ((p : Int) + 1) id true p2 q x2 y := by
    rcases sB g hgz with ⟨h1, _⟩ | ⟨_, h1⟩
    · rw [hsf] at h1; cases h1
    · exact h1
  have hpp : p2 = p := by have := hg.np; omega
  rw [hpp] at hg
  have hxx : x2 = x := by have := hg.hx; rw [hxp] at this; exact (Option.some.inj this).symm
  rw [hxx] at hg
  clear hpp hxx
  obtain ⟨eL, eN⟩ := hg.goL hgz hsf
  obtain ⟨hlh, gL, hentL⟩ := hg.facts g
  have hof : ofL N (iD true x.2.1 id) = ofL N ZL := by rw [hZL]; rfl
  have hofn : ofn N ZL = q + 1 := by rw [← hg.hq, hZL]; rfl
  have hp1 : (ofL N ZL)[p]? = some x := by rw [← hof]; exact hg.hp'
  have hq1 : (ofL N ZL)[q]? = some y := by rw [← hof]; exact hg.hy
  have g1 : GR (ofL N ZL) := by rw [← hof]; exact hg.gr
  rw [hof] at eL hentL
  have hz1 := szN_of (t := ZL) hz hZl
  obtain ⟨_, zx2, zx3⟩ := hz1 x (List.mem_of_getElem? hp1)
  obtain ⟨_, zy2, zy3⟩ := hz1 y (List.mem_of_getElem? hq1)
  have hpl1 := (List.getElem?_eq_some_iff.1 hp1).1
  have hql1 := (List.getElem?_eq_some_iff.1 hq1).1
  have hne : p ≠ q := hlh
  have hlk := wT (N := ofL N ZL) (lo := p) (hi := q) (id := id) (a := y) (b := x) hq1 hp1
  rw [hgz, eN, eL]
  rw [show hM (ofL N ZL) (loP true p q) (hiP true p q) id = hM (ofL N ZL) p q id from rfl] at hentL ⊢
  have ip : ((p : Int) + 1 - 1).toNat = p := by omega
  have iq : ((q : Int) + 1 - 1).toNat = q := by omega
  have htq : inK .i64 ((q : Int) + 1) := (okT_of hid (by have := aAh N ZL; omega)).2
  have htp : inK .i64 ((p : Int) + 1) := hx0
  have rz1 := g1.rise p x hp1
  have rz2 := g1.rise q y hq1
  have sm1 : ∀ s ∈ x.2.2.1, s.1 = id → s = (id, (q : Int) + 1) := fun s hs e => rP g1 (g1.plus p x hp1 s hs) hq1 hg.yu hg.yt e
  have sm2 : ∀ s ∈ y.2.2.2, s.1 = id → s = (id, (p : Int) + 1) := fun s hs e => rP g1 (g1.less q y hq1 s hs) hp1 hg.xu (by rw [hg.yt]; exact (out_wi hTr hin).symm) e
  repeat' (first | ((apply bC 46; refine JL_o (by exact aF en46 rfl (eG _ (some ⟨b0, o0, none⟩) a2 n c n2 c2 N E (h.st hs) (hE0.st hs) hn2 hz)) rfl rfl ?_; rintro _ _ ⟨rfl, hE⟩; rw [he]; have hs := hs.ext hE; (try simp only [zcc] at hs))) | ((apply bC 105; refine JL_o (by exact aF fE rfl (is_r _ (some ⟨b0, o0, none⟩) a2 n c n2 c2 N ((p : Int) + 1) (h.st hs) hx0)) rfl rfl ?_; rintro _ _ ⟨rfl, hE⟩; rw [hi]; have hs := hs.ext hE; (try simp only [zcc] at hs))) | ((apply aP (t := 43); refine JL_o (cX rfl rfl (Ret.value (cap := #[]) en45 (mQ _ r0.2.1.1 r0.2.1.2.1 r0.2.1.2.2 x.2.1 id (mT.st hs) hid))) rfl rfl ?_; rintro _ _ ⟨aw, rfl, hf⟩; rw [hwL] at hf; rw [hwC, hwL]; have hs := hs.fresh hf; (try simp only [zcc] at hs))) | ((apply bC 43; refine JL_o (by exact aF en43 rfl (eU _ aw r0.2.1.1 ZL.length ZL.length r0.2.1.2.1 r0.2.1.2.2 ZL x.2.1 (slU hs zmm hZo) (mT.st hs))) rfl rfl ?_; rintro _ _ ⟨rfl, hE⟩; rw [hzeq]; have hs := hs.ext hE; (try simp only [zcc] at hs))) | ((apply bC 99; refine JL_o (by exact aF en99 rfl (gof_ok _ (some ⟨b0, o0, none⟩) a2 aw n c n2 c2 ZL.length ZL.length N E ZL (h.st hs) (hE0.st hs) (slU hs zmm hZo) hn hn2 hz hc hgz0)) rfl rfl ?_; rintro _ _ ⟨a', m', c', a2', m2, c2', rfl, hm', qs, es, rs', ⟨hqm, hqo⟩, ⟨hce, hAe⟩, ⟨hNl, hel, hm2⟩, hf⟩; rw [hofn]; rw [show (((q + 1 : Nat)) : Int) = (q : Int) + 1 from rfl]; have hs := hs.fresh hf; simp only [zcc] at hs; obtain ⟨b, o, rfl⟩ := (hs.row a' m' c').some (by omega); obtain ⟨qp, hqp, hqpm⟩ := pH hqm hp1; obtain ⟨qq, hqq, hqqm⟩ := pH hqm hq1; (try simp only [zcc] at hs))) | ((apply aP (t := 84); have hs1 : St w NoF _ (OwnN qs :: TabN (some ⟨b, o, none⟩) m' c' (qs.map rawN) :: [_, _, _, _, _]) := hs.sel [1, 0, 2, 3, 5, 6, 7] (by decide); refine JL_o (cX rfl rfl (Ret.value (cap := #[ptr b7]) en170 (aAs w NoF _ _ b o m' c' ((p : Int) + 1 - 1).toNat p qs qp x id ((q : Int) + 1) b7 ip hs1 zmm hqp hqpm (hqo _ (List.mem_of_getElem? hqp)) hid htq rz1.1 sm1 zx2))) rfl rfl ?_; rintro _ _ ⟨qn1, ⟨hn1, ho1⟩, hs⟩; have hqq1 : (qs.set p qn1)[q]? = some qq := (by rw [List.getElem?_set_ne (fun e => hne (by first | exact e | exact e.symm))]; exact hqq))) | ((apply aP (t := 90); refine JL_o (cX rfl rfl (Ret.value (cap := #[ptr b7]) en170 (aAt w NoF _ _ b o m' c' ((q : Int) + 1 - 1).toNat q (qs.set p qn1) qq y id ((p : Int) + 1) b7 iq hs zmm hqq1 hqqm (hqo _ (List.mem_of_getElem? hqq)) hid htp rz2.2 sm2 zy3))) rfl rfl ?_; rintro _ _ ⟨qn2, ⟨hn2, ho2⟩, hs⟩)) | (apply aT) | ((first | (apply aM) | (apply JX_f; exact rfl; intro W X hs)); (first | (apply aW; first | exact aU hs rfl rfl aA | exact aI hs rfl aA | exact bJ (i := ((p : Int) + 1 - 1).toNat) (j := 1) (hr.st hs) hr0' rfl rfl rfl aA) | (apply aR; exact aH rfl aA) | (apply aC; exact aB rfl aA) | (apply aQ; first | exact aK rfl rfl aA | exact bN rfl rfl aA) | (apply dQ; exact dG rfl rfl (by omega) aA) | (apply aL; exact aO rfl rfl rfl aA) | (apply bX; exact bY rfl aA) | (apply iW; exact iB rfl aA) | (apply cK; exact cA rfl rfl aA) | (apply fD; exact gW rfl aA) | (apply aN; exact aJ rfl rfl (by omega) (by omega) aA)); first | (exact rfl; exact rfl) | exact rfl) | (apply bD) | (apply aG) | (apply bH) | (apply aP (t := 5); refine JL_o (by apply cI; exact bS hs rfl) rfl rfl ?_; rintro _ _ ⟨b5, rfl, hb5, hs, hE⟩) | (apply aP (t := 7); refine JL_o (by apply cI; exact bS hs rfl) rfl rfl ?_; rintro _ _ ⟨b7, rfl, hb7, hs, hE⟩) | (apply aP (t := 10); refine JL_o (by apply bB; exact aV hs) rfl rfl ?_; rintro _ _ ⟨b10, rfl, hb10, hs, hE⟩) | (apply bK; refine JL_u (by apply bE; exact aX hs rfl rfl rfl) rfl ?_; rintro _ _ ⟨hs, hF⟩) | (apply aS; first | refine bQ rfl ob ?_ | refine bV rfl gb ?_ | refine bW rfl gb ?_) | (apply cW; (refine cR (id := 16) [0, 1, 0, 4, 15, 0, 32, 0, 128, 480, 31, 2047] [(0, 0), (1, 0), (2, 0), (3, 0), (4, 0), (5, 0), (6, 0), (7, 0), (8, 0), (9, 0), (10, 0), (11, 0)] [] hs dP (by kernel_rfl) (by kernel_rfl) (by kernel_rfl) (by kernel_rfl) (by kernel_rfl) ?_)) | (refine cV (fun W hs => ?_)) | (apply dC))
  have hmean : ((qs.set p qn1).set q qn2).map iE = hM (ofL N ZL) p q id := by
    rw [List.map_set, List.map_set, hqm, hn1, hn2, hlk]; exact List.set_comm _ _ (fun e => hne e)
  refine aY Tryz.func100 rfl (.agg' hs rfl rfl (.tmp rfl (.tmp rfl .nil))) (.inr ⟨rfl, some ⟨b, o, none⟩, m', c', a2', m2, c2', rfl, hm', (qs.set p qn1).set q qn2, es, rs', ⟨hmean, jE (jE hqo ho1) ho2⟩, ⟨hce, hAe.trans hentL.symm⟩, ⟨(pO _ _ _ _).trans hNl, hel, hm2⟩, (hs.sel [1, 0, 2, 3] (by decide)).out (List.Sublist.refl _)⟩)
theorem aAw (w : World) (a a2 : Option Addr) (n c n2 c2 : Nat) (N : List NM) (E : List Ent) (X0 id : Int) (h : Sl fR All w a n c N) (hE0 : Sl dEnt All w a2 n2 c2 E) (hn : n ≤ 900000) (hn2 : n2 ≤ 1048576) (hz : szN N) (hx0 : inK .i64 X0) (hid : okId id) :
    Ret Tryz.prog 100 #[.agg #[.slice a n c, .slice a2 n2 c2], .int .i64 X0, .int .u64 id, .bool false, .func (.func 101) #[] #[]] w fun v w' =>
      (goE N E X0 id false ≠ 0 ∧ v = .tuple #[.agg #[.slice none 0 0, .slice none 0 0], .int .i64 0, .int .i64 (goE N E X0 id false)] ∧ Ext w w') ∨
      (goE N E X0 id false = 0 ∧ ∃ a' m' c' a2' m2 c2', v = .tuple #[.agg #[.slice a' m' c', .slice a2' m2 c2'], .int .i64 (gon N X0 id false), .int .i64 0] ∧ m' ≤ n + 1 ∧ GOut w w' (goL N X0 id false) a' m' c' a2' m2 c2') := by
  refine cE (l := [_, _, _, _, _]) Tryz.func100 rfl Tryz.ntmps100 (by simp) ?_
  have hs := St.init w
  have hl := h.len
  have hl2 := hE0.len
  obtain ⟨rs, hr, hm⟩ := Sl.raw (D := jC) h
  cases hc : eR N E with
  | false =>
    have he := gU hc
    have eE : goE N E X0 id false = 220 := by unfold goE; rw [hc]; rfl
    rw [eE]
    repeat' (first | ((apply bC 46; refine JL_o (by exact aF en46 rfl (eG _ a a2 n c n2 c2 N E (h.st hs) (hE0.st hs) hn2 hz)) rfl rfl ?_; rintro _ _ ⟨rfl, hE⟩; rw [he]; have hs := hs.ext hE; (try simp only [zcc] at hs))) | (apply aT) | ((apply aM); (first | (apply aW; first | exact aU hs rfl rfl aA | exact aI hs rfl aA) | (apply aR; exact aH rfl aA) | (apply aC; exact aB rfl aA) | (apply aL; exact aO rfl rfl rfl aA) | (apply dD; exact cY rfl (by (simp only [bld, dA, cB, Value.cells, List.take_succ_cons, List.take_zero, List.drop_succ_cons, List.drop_zero, List.cons_append, List.nil_append, List.length_cons, List.length_nil, List.getElem?_cons_zero, List.getElem?_cons_succ, Option.map_some, List.append_nil, Nat.reduceAdd, Nat.reduceMul, Nat.zero_add, Nat.reduceLeDiff, and_self, if_true, List.toList_toArray, Nat.le_refl, Nat.zero_mul, Nat.one_mul]; first | done | rfl)) aA)); first | (exact rfl; exact rfl) | exact rfl) | (apply bD) | (apply aG) | (apply aP (t := 5); refine JL_o (by apply cI; exact bS hs rfl) rfl rfl ?_; rintro _ _ ⟨b5, rfl, hb5, hs, hE⟩) | (apply aP (t := 7); refine JL_o (by apply cI; exact bS hs rfl) rfl rfl ?_; rintro _ _ ⟨b7, rfl, hb7, hs, hE⟩) | (apply aP (t := 10); refine JL_o (by apply bB; exact aV hs) rfl rfl ?_; rintro _ _ ⟨b10, rfl, hb10, hs, hE⟩) | (apply bK; refine JL_u (by apply bE; exact aX hs rfl rfl rfl) rfl ?_; rintro _ _ ⟨hs, hF⟩) | (apply aS; refine bF rfl ob ?_))
    refine aY Tryz.func100 rfl (.agg' hs rfl rfl (.tmp rfl (.tmp rfl .nil))) (.inl ⟨by decide, rfl, hs.frm.ext⟩)
  | true =>
  have he := lN hc
  obtain ⟨g, hcE, hA⟩ := check_iff.1 hc
  have eE : goE N E X0 id false = goC N X0 id false := by unfold goE; rw [hc]; rfl
  rw [eE]
  cases hi : isM N X0 with
  | false =>
    have e1 : goC N X0 id false = 2 := by unfold goC; rw [hi]; rfl
    rw [e1]
    repeat' (first | ((apply bC 46; refine JL_o (by exact aF en46 rfl (eG _ a a2 n c n2 c2 N E (h.st hs) (hE0.st hs) hn2 hz)) rfl rfl ?_; rintro _ _ ⟨rfl, hE⟩; rw [he]; have hs := hs.ext hE; (try simp only [zcc] at hs))) | ((apply bC 105; refine JL_o (by exact aF fE rfl (is_r _ a a2 n c n2 c2 N X0 (h.st hs) hx0)) rfl rfl ?_; rintro _ _ ⟨rfl, hE⟩; rw [hi]; have hs := hs.ext hE; (try simp only [zcc] at hs))) | (apply aT) | ((apply aM); (first | (apply aW; first | exact aU hs rfl rfl aA | exact aI hs rfl aA) | (apply aR; exact aH rfl aA) | (apply aC; exact aB rfl aA) | (apply aL; exact aO rfl rfl rfl aA) | (apply bX; exact bY rfl aA) | (apply dD; exact cY rfl (by (simp only [bld, dA, cB, Value.cells, List.take_succ_cons, List.take_zero, List.drop_succ_cons, List.drop_zero, List.cons_append, List.nil_append, List.length_cons, List.length_nil, List.getElem?_cons_zero, List.getElem?_cons_succ, Option.map_some, List.append_nil, Nat.reduceAdd, Nat.reduceMul, Nat.zero_add, Nat.reduceLeDiff, and_self, if_true, List.toList_toArray, Nat.le_refl, Nat.zero_mul, Nat.one_mul]; first | done | rfl)) aA)); first | (exact rfl; exact rfl) | exact rfl) | (apply bD) | (apply aG) | (apply bH) | (apply aP (t := 5); refine JL_o (by apply cI; exact bS hs rfl) rfl rfl ?_; rintro _ _ ⟨b5, rfl, hb5, hs, hE⟩) | (apply aP (t := 7); refine JL_o (by apply cI; exact bS hs rfl) rfl rfl ?_; rintro _ _ ⟨b7, rfl, hb7, hs, hE⟩) | (apply aP (t := 10); refine JL_o (by apply bB; exact aV hs) rfl rfl ?_; rintro _ _ ⟨b10, rfl, hb10, hs, hE⟩) | (apply bK; refine JL_u (by apply bE; exact aX hs rfl rfl rfl) rfl ?_; rintro _ _ ⟨hs, hF⟩) | (apply aS; first | refine bQ rfl ob ?_ | refine bV rfl gb ?_))
    refine aY Tryz.func100 rfl (.agg' hs rfl rfl (.tmp rfl (.tmp rfl .nil))) (.inl ⟨by decide, rfl, hs.frm.ext⟩)
  | true =>
  obtain ⟨p, x, rfl, hxp, hxu⟩ := isM_true.1 hi
  have hpl := (List.getElem?_eq_some_iff.1 hxp).1
  have hnd : dY N ((p : Int) + 1) = x := dM hxp
  obtain ⟨r0, hr0, hrel0⟩ := hm.get hxp
  obtain ⟨u1, mT, u3, u4⟩ := kU hrel0
  have mTl := mT.len
  have hTy := g.typ p x hxp hxu
  obtain ⟨hT12, hTr, _⟩ := typeB_iff.1 hTy
  have hr0' : rs[((p : Int) + 1 - 1).toNat]? = some r0 := by rw [show ((p : Int) + 1 - 1).toNat = p by omega]; exact hr0
  have hbx : 0 ≤ (p : Int) + 1 - 1 ∧ (p : Int) + 1 - 1 < n := by omega
  obtain ⟨b0, o0, rfl⟩ := hr.sl.addr (by omega)
  have hgc : goC N ((p : Int) + 1) id false = (if id ∈ x.2.1 then ofC N (outT x.2.1 id) else 4) := by unfold goC; rw [hi, if_pos rfl, hnd]; rfl
  have hst : oI N ((p : Int) + 1) id false = false := by unfold oI; rw [hnd]; rfl
  by_cases hin : id ∈ x.2.1
  rotate_left
  · rw [if_neg hin] at hgc
    have hwC : outC x.2.1 id = 4 := by unfold outC; rw [if_pos hTy, if_neg hin]
    have hwL : outL x.2.1 id = [] := by unfold outL; rw [hwC]; rfl
    rw [hgc]
    repeat' (first | ((apply bC 46; refine JL_o (by exact aF en46 rfl (eG _ (some ⟨b0, o0, none⟩) a2 n c n2 c2 N E (h.st hs) (hE0.st hs) hn2 hz)) rfl rfl ?_; rintro _ _ ⟨rfl, hE⟩; rw [he]; have hs := hs.ext hE; (try simp only [zcc] at hs))) | ((apply bC 105; refine JL_o (by exact aF fE rfl (is_r _ (some ⟨b0, o0, none⟩) a2 n c n2 c2 N ((p : Int) + 1) (h.st hs) hx0)) rfl rfl ?_; rintro _ _ ⟨rfl, hE⟩; rw [hi]; have hs := hs.ext hE; (try simp only [zcc] at hs))) | ((apply aP (t := 43); refine JL_o (cX rfl rfl (Ret.value (cap := #[]) vS (iQ _ r0.2.1.1 r0.2.1.2.1 r0.2.1.2.2 x.2.1 id (mT.st hs)))) rfl rfl ?_; rintro _ _ ⟨aw, cw, rfl, hf⟩; rw [hwL] at hf; rw [hwC, hwL]; have hs := hs.fresh hf; (try simp only [zcc] at hs))) | (apply aT) | ((apply aM); (first | (apply aW; first | exact aU hs rfl rfl aA | exact aI hs rfl aA | exact bJ (i := ((p : Int) + 1 - 1).toNat) (j := 1) (hr.st hs) hr0' rfl rfl rfl aA) | (apply aR; exact aH rfl aA) | (apply aC; exact aB rfl aA) | (apply aQ; first | exact aK rfl rfl aA | exact bN rfl rfl aA) | (apply dQ; exact dG rfl rfl (by omega) aA) | (apply aL; exact aO rfl rfl rfl aA) | (apply bX; exact bY rfl aA) | (apply cK; exact cA rfl rfl aA) | (apply aN; exact aJ rfl rfl (by omega) (by omega) aA) | (apply dD; exact cY rfl (by (simp only [bld, dA, cB, Value.cells, List.take_succ_cons, List.take_zero, List.drop_succ_cons, List.drop_zero, List.cons_append, List.nil_append, List.length_cons, List.length_nil, List.getElem?_cons_zero, List.getElem?_cons_succ, Option.map_some, List.append_nil, Nat.reduceAdd, Nat.reduceMul, Nat.zero_add, Nat.reduceLeDiff, and_self, if_true, List.toList_toArray, Nat.le_refl, Nat.zero_mul, Nat.one_mul]; first | done | rfl)) aA)); first | (exact rfl; exact rfl) | exact rfl) | (apply bD) | (apply aG) | (apply bH) | (apply aP (t := 5); refine JL_o (by apply cI; exact bS hs rfl) rfl rfl ?_; rintro _ _ ⟨b5, rfl, hb5, hs, hE⟩) | (apply aP (t := 7); refine JL_o (by apply cI; exact bS hs rfl) rfl rfl ?_; rintro _ _ ⟨b7, rfl, hb7, hs, hE⟩) | (apply aP (t := 10); refine JL_o (by apply bB; exact aV hs) rfl rfl ?_; rintro _ _ ⟨b10, rfl, hb10, hs, hE⟩) | (apply bK; refine JL_u (by apply bE; exact aX hs rfl rfl rfl) rfl ?_; rintro _ _ ⟨hs, hF⟩) | (apply aS; first | refine bF rfl ob ?_ | refine bQ rfl ob ?_ | refine bW rfl gb ?_))
    refine aY Tryz.func100 rfl (.agg' hs rfl rfl (.tmp rfl (.tmp rfl .nil))) (.inl ⟨by decide, rfl, hs.frm.ext⟩)
  rw [if_pos hin] at hgc
  obtain ⟨ZL, hZL⟩ : ∃ z, z = outT x.2.1 id := ⟨_, rfl⟩
  obtain ⟨hwC, hwL0⟩ := oD hTy hin
  have hwL : outL x.2.1 id = ZL := by rw [hwL0, hZL]
  have hZo : ∀ u ∈ ZL, okId u := by rw [hZL]; exact (fun u hu => mI mT u (outT_mem.1 hu).1)
  have hZl : ZL.length ≤ 1000000 := by rw [hZL]; have := outT_len x.2.1 id; omega
  have hne0 : ZL ≠ x.2.1 := fun e => by rw [← e, hZL, outT_mem] at hin; exact hin.2 rfl
  have hsf : oI N ((p : Int) + 1) id false = false := hst
  rw [← hZL] at hgc
  have hzeq : decide (ZL = x.2.1) = false := decide_eq_false hne0
  obtain ⟨oc, hoc⟩ : ∃ e, ofC N ZL = e := ⟨_, rfl⟩
  by_cases ho0 : oc ≠ 0
  · rw [hgc, hoc]
    repeat' (first | ((apply bC 46; refine JL_o (by exact aF en46 rfl (eG _ (some ⟨b0, o0, none⟩) a2 n c n2 c2 N E (h.st hs) (hE0.st hs) hn2 hz)) rfl rfl ?_; rintro _ _ ⟨rfl, hE⟩; rw [he]; have hs := hs.ext hE; (try simp only [zcc] at hs))) | ((apply bC 105; refine JL_o (by exact aF fE rfl (is_r _ (some ⟨b0, o0, none⟩) a2 n c n2 c2 N ((p : Int) + 1) (h.st hs) hx0)) rfl rfl ?_; rintro _ _ ⟨rfl, hE⟩; rw [hi]; have hs := hs.ext hE; (try simp only [zcc] at hs))) | ((apply aP (t := 43); refine JL_o (cX rfl rfl (Ret.value (cap := #[]) vS (iQ _ r0.2.1.1 r0.2.1.2.1 r0.2.1.2.2 x.2.1 id (mT.st hs)))) rfl rfl ?_; rintro _ _ ⟨aw, cw, rfl, hf⟩; rw [hwL] at hf; rw [hwC, hwL]; have hs := hs.fresh hf; (try simp only [zcc] at hs))) | ((apply bC 43; refine JL_o (by exact aF en43 rfl (eU _ aw r0.2.1.1 ZL.length cw r0.2.1.2.1 r0.2.1.2.2 ZL x.2.1 (slU hs zmm hZo) (mT.st hs))) rfl rfl ?_; rintro _ _ ⟨rfl, hE⟩; rw [hzeq]; have hs := hs.ext hE; (try simp only [zcc] at hs))) | ((apply bC 99; refine JL_o (by exact aF en99 rfl (aAx _ (some ⟨b0, o0, none⟩) a2 aw n c n2 c2 ZL.length cw N E ZL (h.st hs) (hE0.st hs) (slU hs zmm hZo) hn hn2 hz hc (by rw [hoc]; exact ho0))) rfl rfl ?_; rintro _ _ ⟨rfl, hE⟩; rw [hoc]; have hs := hs.ext hE; (try simp only [zcc] at hs))) | (apply aT) | ((apply aM); (first | (apply aW; first | exact aU hs rfl rfl aA | exact aI hs rfl aA | exact bJ (i := ((p : Int) + 1 - 1).toNat) (j := 1) (hr.st hs) hr0' rfl rfl rfl aA) | (apply aR; exact aH rfl aA) | (apply aC; exact aB rfl aA) | (apply aQ; first | exact aK rfl rfl aA | exact bN rfl rfl aA) | (apply dQ; exact dG rfl rfl (by omega) aA) | (apply aL; exact aO rfl rfl rfl aA) | (apply bX; exact bY rfl aA) | (apply cK; exact cA rfl rfl aA) | (apply aN; exact aJ rfl rfl (by omega) (by omega) aA) | (apply dD; exact cY rfl (by (simp only [bld, dA, cB, Value.cells, List.take_succ_cons, List.take_zero, List.drop_succ_cons, List.drop_zero, List.cons_append, List.nil_append, List.length_cons, List.length_nil, List.getElem?_cons_zero, List.getElem?_cons_succ, Option.map_some, List.append_nil, Nat.reduceAdd, Nat.reduceMul, Nat.zero_add, Nat.reduceLeDiff, and_self, if_true, List.toList_toArray, Nat.le_refl, Nat.zero_mul, Nat.one_mul]; first | done | rfl)) aA)); first | (exact rfl; exact rfl) | exact rfl) | (apply bD) | (apply aG) | (apply bH) | (apply aP (t := 5); refine JL_o (by apply cI; exact bS hs rfl) rfl rfl ?_; rintro _ _ ⟨b5, rfl, hb5, hs, hE⟩) | (apply aP (t := 7); refine JL_o (by apply cI; exact bS hs rfl) rfl rfl ?_; rintro _ _ ⟨b7, rfl, hb7, hs, hE⟩) | (apply aP (t := 10); refine JL_o (by apply bB; exact aV hs) rfl rfl ?_; rintro _ _ ⟨b10, rfl, hb10, hs, hE⟩) | (apply bK; refine JL_u (by apply bE; exact aX hs rfl rfl rfl) rfl ?_; rintro _ _ ⟨hs, hF⟩) | (apply aS; first | refine bF rfl ob ?_ | refine bQ rfl ob ?_ | refine bW rfl gb ?_))
    refine aY Tryz.func100 rfl (.agg' hs rfl rfl (.tmp rfl (.tmp rfl .nil))) (.inl ⟨ho0, rfl, hs.frm.ext⟩)
  have hgz0 : ofC N ZL = 0 := by rw [hoc]; exact Decidable.not_not.1 ho0
  have hgz : goC N ((p : Int) + 1) id false = 0 := by rw [hgc, hgz0]
  obtain ⟨p2, q, x2, y, hg⟩ : ∃ (p2 q : Nat) (x2 y : NM), Gone N ((p : Int) + 1) id false p2 q x2 y := by
    rcases sB g hgz with ⟨h1, _⟩ | ⟨_, h1⟩
    · rw [hsf] at h1; cases h1
    · exact h1
  have hpp : p2 = p := by have := hg.np; omega
  rw [hpp] at hg
  have hxx : x2 = x := by have := hg.hx; rw [hxp] at this; exact (Option.some.inj this).symm
  rw [hxx] at hg
  clear hpp hxx
  obtain ⟨eL, eN⟩ := hg.goL hgz hsf
  obtain ⟨hlh, gL, hentL⟩ := hg.facts g
  have hof : ofL N (iD false x.2.1 id) = ofL N ZL := by rw [hZL]; rfl
  have hofn : ofn N ZL = q + 1 := by rw [← hg.hq, hZL]; rfl
  have hp1 : (ofL N ZL)[p]? = some x := by rw [← hof]; exact hg.hp'
  have hq1 : (ofL N ZL)[q]? = some y := by rw [← hof]; exact hg.hy
  have g1 : GR (ofL N ZL) := by rw [← hof]; exact hg.gr
  rw [hof] at eL hentL
  have hz1 := szN_of (t := ZL) hz hZl
  obtain ⟨_, zx2, zx3⟩ := hz1 x (List.mem_of_getElem? hp1)
  obtain ⟨_, zy2, zy3⟩ := hz1 y (List.mem_of_getElem? hq1)
  have hpl1 := (List.getElem?_eq_some_iff.1 hp1).1
  have hql1 := (List.getElem?_eq_some_iff.1 hq1).1
  have hne : q ≠ p := hlh
  have hlk := wT (N := ofL N ZL) (lo := q) (hi := p) (id := id) (a := x) (b := y) hp1 hq1
  rw [hgz, eN, eL]
  rw [show hM (ofL N ZL) (loP false p q) (hiP false p q) id = hM (ofL N ZL) q p id from rfl] at hentL ⊢
  have ip : ((p : Int) + 1 - 1).toNat = p := by omega
  have iq : ((q : Int) + 1 - 1).toNat = q := by omega
  have htq : inK .i64 ((q : Int) + 1) := (okT_of hid (by have := aAh N ZL; omega)).2
  have htp : inK .i64 ((p : Int) + 1) := hx0
  have rz1 := g1.rise p x hp1
  have rz2 := g1.rise q y hq1
  have sm1 : ∀ s ∈ x.2.2.2, s.1 = id → s = (id, (q : Int) + 1) := fun s hs e => rP g1 (g1.less p x hp1 s hs) hq1 hg.yu hg.yt e
  have sm2 : ∀ s ∈ y.2.2.1, s.1 = id → s = (id, (p : Int) + 1) := fun s hs e => rP g1 (g1.plus q y hq1 s hs) hp1 hg.xu (by rw [hg.yt]; exact (wi_out hTr hin).symm) e
  repeat' (first | ((apply bC 46; refine JL_o (by exact aF en46 rfl (eG _ (some ⟨b0, o0, none⟩) a2 n c n2 c2 N E (h.st hs) (hE0.st hs) hn2 hz)) rfl rfl ?_; rintro _ _ ⟨rfl, hE⟩; rw [he]; have hs := hs.ext hE; (try simp only [zcc] at hs))) | ((apply bC 105; refine JL_o (by exact aF fE rfl (is_r _ (some ⟨b0, o0, none⟩) a2 n c n2 c2 N ((p : Int) + 1) (h.st hs) hx0)) rfl rfl ?_; rintro _ _ ⟨rfl, hE⟩; rw [hi]; have hs := hs.ext hE; (try simp only [zcc] at hs))) | ((apply aP (t := 43); refine JL_o (cX rfl rfl (Ret.value (cap := #[]) vS (iQ _ r0.2.1.1 r0.2.1.2.1 r0.2.1.2.2 x.2.1 id (mT.st hs)))) rfl rfl ?_; rintro _ _ ⟨aw, cw, rfl, hf⟩; rw [hwL] at hf; rw [hwC, hwL]; have hs := hs.fresh hf; (try simp only [zcc] at hs))) | ((apply bC 43; refine JL_o (by exact aF en43 rfl (eU _ aw r0.2.1.1 ZL.length cw r0.2.1.2.1 r0.2.1.2.2 ZL x.2.1 (slU hs zmm hZo) (mT.st hs))) rfl rfl ?_; rintro _ _ ⟨rfl, hE⟩; rw [hzeq]; have hs := hs.ext hE; (try simp only [zcc] at hs))) | ((apply bC 99; refine JL_o (by exact aF en99 rfl (gof_ok _ (some ⟨b0, o0, none⟩) a2 aw n c n2 c2 ZL.length cw N E ZL (h.st hs) (hE0.st hs) (slU hs zmm hZo) hn hn2 hz hc hgz0)) rfl rfl ?_; rintro _ _ ⟨a', m', c', a2', m2, c2', rfl, hm', qs, es, rs', ⟨hqm, hqo⟩, ⟨hce, hAe⟩, ⟨hNl, hel, hm2⟩, hf⟩; rw [hofn]; rw [show (((q + 1 : Nat)) : Int) = (q : Int) + 1 from rfl]; have hs := hs.fresh hf; simp only [zcc] at hs; obtain ⟨b, o, rfl⟩ := (hs.row a' m' c').some (by omega); obtain ⟨qp, hqp, hqpm⟩ := pH hqm hp1; obtain ⟨qq, hqq, hqqm⟩ := pH hqm hq1; (try simp only [zcc] at hs))) | ((apply aP (t := 96); have hs1 : St w NoF _ (OwnN qs :: TabN (some ⟨b, o, none⟩) m' c' (qs.map rawN) :: [_, _, _, _, _]) := hs.sel [1, 0, 2, 3, 5, 6, 7] (by decide); refine JL_o (cX rfl rfl (Ret.value (cap := #[ptr b7]) en170 (aAt w NoF _ _ b o m' c' ((p : Int) + 1 - 1).toNat p qs qp x id ((q : Int) + 1) b7 ip hs1 zmm hqp hqpm (hqo _ (List.mem_of_getElem? hqp)) hid htq rz1.2 sm1 zx3))) rfl rfl ?_; rintro _ _ ⟨qn1, ⟨hn1, ho1⟩, hs⟩; have hqq1 : (qs.set p qn1)[q]? = some qq := (by rw [List.getElem?_set_ne (fun e => hne (by first | exact e | exact e.symm))]; exact hqq))) | ((apply aP (t := 102); refine JL_o (cX rfl rfl (Ret.value (cap := #[ptr b7]) en170 (aAs w NoF _ _ b o m' c' ((q : Int) + 1 - 1).toNat q (qs.set p qn1) qq y id ((p : Int) + 1) b7 iq hs zmm hqq1 hqqm (hqo _ (List.mem_of_getElem? hqq)) hid htp rz2.1 sm2 zy2))) rfl rfl ?_; rintro _ _ ⟨qn2, ⟨hn2, ho2⟩, hs⟩)) | (apply aT) | ((first | (apply aM) | (apply JX_f; exact rfl; intro W X hs)); (first | (apply aW; first | exact aU hs rfl rfl aA | exact aI hs rfl aA | exact bJ (i := ((p : Int) + 1 - 1).toNat) (j := 1) (hr.st hs) hr0' rfl rfl rfl aA) | (apply aR; exact aH rfl aA) | (apply aC; exact aB rfl aA) | (apply aQ; first | exact aK rfl rfl aA | exact bN rfl rfl aA) | (apply dQ; exact dG rfl rfl (by omega) aA) | (apply aL; exact aO rfl rfl rfl aA) | (apply bX; exact bY rfl aA) | (apply iW; exact iB rfl aA) | (apply cK; exact cA rfl rfl aA) | (apply fD; exact gW rfl aA) | (apply aN; exact aJ rfl rfl (by omega) (by omega) aA)); first | (exact rfl; exact rfl) | exact rfl) | (apply bD) | (apply aG) | (apply bH) | (apply aP (t := 5); refine JL_o (by apply cI; exact bS hs rfl) rfl rfl ?_; rintro _ _ ⟨b5, rfl, hb5, hs, hE⟩) | (apply aP (t := 7); refine JL_o (by apply cI; exact bS hs rfl) rfl rfl ?_; rintro _ _ ⟨b7, rfl, hb7, hs, hE⟩) | (apply aP (t := 10); refine JL_o (by apply bB; exact aV hs) rfl rfl ?_; rintro _ _ ⟨b10, rfl, hb10, hs, hE⟩) | (apply bK; refine JL_u (by apply bE; exact aX hs rfl rfl rfl) rfl ?_; rintro _ _ ⟨hs, hF⟩) | (apply aS; first | refine bQ rfl ob ?_ | refine bW rfl gb ?_) | (apply cW; (refine cR (id := 16) [0, 1, 0, 4, 15, 0, 32, 0, 128, 480, 31, 2047] [(0, 0), (1, 0), (2, 0), (3, 0), (4, 0), (5, 0), (6, 0), (7, 0), (8, 0), (9, 0), (10, 0), (11, 0)] [] hs dP (by kernel_rfl) (by kernel_rfl) (by kernel_rfl) (by kernel_rfl) (by kernel_rfl) ?_)) | (refine cV (fun W hs => ?_)) | (apply dC))
  have hmean : ((qs.set p qn1).set q qn2).map iE = hM (ofL N ZL) q p id := by
    rw [List.map_set, List.map_set, hqm, hn1, hn2, hlk]
  refine aY Tryz.func100 rfl (.agg' hs rfl rfl (.tmp rfl (.tmp rfl .nil))) (.inr ⟨rfl, some ⟨b, o, none⟩, m', c', a2', m2, c2', rfl, hm', (qs.set p qn1).set q qn2, es, rs', ⟨hmean, jE (jE hqo ho1) ho2⟩, ⟨hce, hAe.trans hentL.symm⟩, ⟨(pO _ _ _ _).trans hNl, hel, hm2⟩, (hs.sel [1, 0, 2, 3] (by decide)).out (List.Sublist.refl _)⟩)
end Go.Eng
end
section
namespace Go.Eng
open Go.Proofs
set_option linter.unusedSimpArgs false
set_option linter.unusedVariables false
def drC (N : List NM) (n : Int) : Int := if isM N n && !decide (n = 1) then 0 else 2
def drL (N : List NM) (n : Int) : List NM := if drC N n = 0 then jN N (n - 1).toNat else []
def drE (N : List NM) (E : List Ent) (n : Int) : Int := if eR N E then drC N n else 220
def vW (P : Int) (x : NM) : NM := (x.1, x.2.1, fF x.2.2.1 P, fF x.2.2.2 P)
theorem away_map (N : List NM) (p : Nat) : (N.set p n0).map (vW ((p : Int) + 1)) = N.mapIdx (offN p) := by
  apply List.ext_getElem?
  intro i
  rw [List.getElem?_map, List.getElem?_mapIdx]
  by_cases e : i = p
  · subst e
    by_cases hl : i < N.length
    · rw [List.getElem?_set_self hl, List.getElem?_eq_getElem hl]
      show some (vW _ n0) = some (offN i i _)
      unfold offN
      rw [if_pos rfl]; rfl
    · rw [List.getElem?_eq_none (by rw [List.length_set]; omega), List.getElem?_eq_none (by omega)]; rfl
  · rw [List.getElem?_set_ne (by omega)]
    cases hx : N[i]? with
    | none => rfl
    | some x =>
      show some (vW _ x) = some (offN p i x)
      rw [gJ e]; rfl
theorem St.cutN {w0 w : World} {F : Nat → Prop} {L : List HP} {qs : List QN} (m : Nat) (h : St w0 F w (OwnN qs :: L)) : St w0 F w (OwnN (qs.take m) :: L) := by
  have h2 : St w0 F w (qs.map rowN ++ L) := St.unstar h
  refine St.star (A := (qs.take m).map rowN) (h2.sub ?_)
  exact List.Sublist.append_right ((List.take_sublist m qs).map rowN) L
theorem uD {N : List NM} {E : List Ent} (h : eR N E = true) {p : Nat} {a : NM} (ha : N[p]? = some a) (hua : a.1 = true) {i : Nat} {e : Ent} (he : E[i]? = some e) (he1 : e.1 = 1) (het : e.2.1 = a.2.1) : allM (E.set i gone) = eX (jN N p) := by
  obtain ⟨g, hc, hA⟩ := check_iff.1 h
  have hem : e ∈ E.filter eH := List.mem_filter.2 ⟨List.mem_of_getElem? he, decide_eq_true he1⟩
  have hx : ((1, a.2.1, (p : Int) + 1) : Ent) ∈ E.filter eH := (fB E).mem_iff.1 (by rw [hA]; exact ents_mem.2 ⟨p, a, ha, hua, rfl⟩)
  have hee : e = (1, a.2.1, (p : Int) + 1) := oF (eM hc) hem hx het
  have hp := vO he he1
  have hd : eK (e :: (E.set i gone).filter eH) := (hp.pairwise_iff (fun h => Ne.symm h)).1 (eM hc)
  have hne := (List.pairwise_cons.1 (eV hd)).1
  refine aBp (nV hc he he1) (qC g.uniq) fun u => ?_
  rw [qD ha hua g.uniq, ← hee, ← hA, (fB E).mem_iff, hp.mem_iff, List.mem_cons]
  constructor
  · intro h; exact ⟨.inr h, fun e => hne u h e.symm⟩
  · rintro ⟨h1 | h1, h2⟩
    · exact absurd h1 h2
    · exact h1
theorem vT {N : List NM} {E : List Ent} (h : eR N E = true) {p : Nat} {a : NM} (ha : N[p]? = some a) (hua : a.1 = true) : uE E a.2.1 = 0 := by
  obtain ⟨g, hc, hA⟩ := check_iff.1 h
  have hx : ((1, a.2.1, (p : Int) + 1) : Ent) ∈ E.filter eH := (fB E).mem_iff.1 (by rw [hA]; exact ents_mem.2 ⟨p, a, ha, hua, rfl⟩)
  exact yR hc hx
theorem gone_len {E : List Ent} (i : Nat) : (E.set i gone).length = E.length := List.length_set
attribute [local irreducible] Hold J JL JD JX JXat JDH OpR OpG Ret RetV Is Blk Row
set_option maxRecDepth 100000
set_option maxHeartbeats 800000
theorem mB (w : World) (x : ST) (P : Int) (b3 : Nat) (hb3 : w.heap[b3]? = some (.cells #[.int .i64 P] 3 (0, 0))) : Ret Tryz.prog 108 (#[.agg (cT x).toArray] ++ #[ptr b3]) w fun v w' => v = .bool (decide (x.2 = P)) ∧ Ext w w' := by
  refine cE (l := [_, _]) Tryz.func108 rfl Tryz.ntmps108 (by simp) ?_
  have hs := St.init w
  repeat' (first | (apply aT) | ((apply aM); (first | (apply aW; first | exact aU hs rfl rfl aA | exact cG (hs.old_cell (dE (off := 0) hb3 rfl)) rfl aA) | (apply aC; exact aB rfl aA) | (apply aQ; exact aK rfl rfl aA) | (apply aL; exact aO rfl rfl rfl aA)); first | (exact rfl; exact rfl) | exact rfl) | (apply bD) | (apply aG) | (apply aP (t := 2); refine JL_o (by apply cI; exact bS hs rfl) rfl rfl ?_; rintro _ _ ⟨b2, rfl, hb2, hs, hE⟩))
  refine aY Tryz.func108 rfl (.tmp rfl .nil) ⟨rfl, hs.frm.ext⟩
-- WSPL 38 6 : [] [0, 1, 2]
theorem gdrop_r (w : World) (a a2 : Option Addr) (n c n2 c2 : Nat) (N : List NM) (E : List Ent) (X0 : Int) (h : Sl fR All w a n c N) (hE0 : Sl dEnt All w a2 n2 c2 E) (hn : n ≤ 900000) (hn2 : n2 ≤ 1048576) (hz : szN N) (hx0 : inK .i64 X0) :
    Ret Tryz.prog 38 #[.agg #[.slice a n c, .slice a2 n2 c2], .int .i64 X0] w fun v w' =>
      (drE N E X0 ≠ 0 ∧ v = .tuple #[.agg #[.slice none 0 0, .slice none 0 0], .int .i64 (drE N E X0)] ∧ Ext w w') ∨
      (drE N E X0 = 0 ∧ ∃ a' m' c' a2' m2 c2', v = .tuple #[.agg #[.slice a' m' c', .slice a2' m2 c2'], .int .i64 0] ∧ m' ≤ n ∧ GOut w w' (drL N X0) a' m' c' a2' m2 c2') := by
  refine cE (l := [_, _]) Tryz.func38 rfl Tryz.ntmps38 (by simp) ?_
  have hs := St.init w
  have hl := h.len
  have hl2 := hE0.len
  obtain ⟨rs, hr, hm⟩ := Sl.raw (D := jC) h
  cases hc : eR N E with
  | false =>
    have he := gU hc
    have eE : drE N E X0 = 220 := by unfold drE; rw [hc]; rfl
    rw [eE]
    repeat' (first | ((apply bC 46; refine JL_o (by exact aF en46 rfl (eG _ a a2 n c n2 c2 N E (h.st hs) (hE0.st hs) hn2 hz)) rfl rfl ?_; rintro _ _ ⟨rfl, hE⟩; rw [he]; have hs := hs.ext hE; (try simp only [zcc] at hs))) | (apply aT) | ((apply aM); (first | (apply aW; first | exact aU hs rfl rfl aA | exact aI hs rfl aA) | (apply aR; exact aH rfl aA) | (apply aC; exact aB rfl aA) | (apply aL; exact aO rfl rfl rfl aA) | (apply dD; exact cY rfl (by (simp only [bld, dA, cB, Value.cells, List.take_succ_cons, List.take_zero, List.drop_succ_cons, List.drop_zero, List.cons_append, List.nil_append, List.length_cons, List.length_nil, List.getElem?_cons_zero, List.getElem?_cons_succ, Option.map_some, List.append_nil, Nat.reduceAdd, Nat.reduceMul, Nat.zero_add, Nat.reduceLeDiff, and_self, if_true, List.toList_toArray, Nat.le_refl, Nat.zero_mul, Nat.one_mul]; first | done | rfl)) aA)); first | (exact rfl; exact rfl) | exact rfl) | (apply bD) | (apply aG) | (apply aP (t := 2); refine JL_o (by apply cI; exact bS hs rfl) rfl rfl ?_; rintro _ _ ⟨b2, rfl, hb2, hs, hE⟩) | (apply aP (t := 3); refine JL_o (by apply cI; exact bS hs rfl) rfl rfl ?_; rintro _ _ ⟨b3, rfl, hb3, hs, hE⟩) | (apply aP (t := 4); refine JL_o (by apply bB; exact aV hs) rfl rfl ?_; rintro _ _ ⟨b4, rfl, hb4, hs, hE⟩) | (apply bK; refine JL_u (by apply bE; exact aX hs rfl rfl rfl) rfl ?_; rintro _ _ ⟨hs, hF⟩) | (apply aS; refine bF rfl ob ?_))
    refine aY Tryz.func38 rfl (.agg' hs rfl rfl (.tmp rfl .nil)) (.inl ⟨by decide, rfl, hs.frm.ext⟩)
  | true =>
  have he := lN hc
  obtain ⟨g, hcE, hA⟩ := check_iff.1 hc
  have eE : drE N E X0 = drC N X0 := by unfold drE; rw [hc]; rfl
  rw [eE]
  cases hi : isM N X0 with
  | false =>
    have e1 : drC N X0 = 2 := by unfold drC; rw [hi]; rfl
    rw [e1]
    repeat' (first | ((apply bC 46; refine JL_o (by exact aF en46 rfl (eG _ a a2 n c n2 c2 N E (h.st hs) (hE0.st hs) hn2 hz)) rfl rfl ?_; rintro _ _ ⟨rfl, hE⟩; rw [he]; have hs := hs.ext hE; (try simp only [zcc] at hs))) | ((apply bC 105; refine JL_o (by exact aF fE rfl (is_r _ a a2 n c n2 c2 N X0 (h.st hs) hx0)) rfl rfl ?_; rintro _ _ ⟨rfl, hE⟩; rw [hi]; have hs := hs.ext hE; (try simp only [zcc] at hs))) | (apply aT) | ((apply aM); (first | (apply aW; first | exact aU hs rfl rfl aA | exact aI hs rfl aA) | (apply aR; exact aH rfl aA) | (apply aC; exact aB rfl aA) | (apply aL; exact aO rfl rfl rfl aA) | (apply bX; exact bY rfl aA) | (apply bR; exact bL rfl gb rfl aA) | (apply dD; exact cY rfl (by (simp only [bld, dA, cB, Value.cells, List.take_succ_cons, List.take_zero, List.drop_succ_cons, List.drop_zero, List.cons_append, List.nil_append, List.length_cons, List.length_nil, List.getElem?_cons_zero, List.getElem?_cons_succ, Option.map_some, List.append_nil, Nat.reduceAdd, Nat.reduceMul, Nat.zero_add, Nat.reduceLeDiff, and_self, if_true, List.toList_toArray, Nat.le_refl, Nat.zero_mul, Nat.one_mul]; first | done | rfl)) aA)); first | (exact rfl; exact rfl) | exact rfl) | (apply bD) | (apply aG) | (apply bH) | (apply aP (t := 2); refine JL_o (by apply cI; exact bS hs rfl) rfl rfl ?_; rintro _ _ ⟨b2, rfl, hb2, hs, hE⟩) | (apply aP (t := 3); refine JL_o (by apply cI; exact bS hs rfl) rfl rfl ?_; rintro _ _ ⟨b3, rfl, hb3, hs, hE⟩) | (apply aP (t := 4); refine JL_o (by apply bB; exact aV hs) rfl rfl ?_; rintro _ _ ⟨b4, rfl, hb4, hs, hE⟩) | (apply bK; refine JL_u (by apply bE; exact aX hs rfl rfl rfl) rfl ?_; rintro _ _ ⟨hs, hF⟩) | (apply cL; (refine eB rfl gb rfl ?_)) | (apply aS; first | refine bQ rfl ob ?_ | refine bV rfl gb ?_))
    refine aY Tryz.func38 rfl (.agg' hs rfl rfl (.tmp rfl .nil)) (.inl ⟨by decide, rfl, hs.frm.ext⟩)
  | true =>
  by_cases h1 : X0 = 1
  · have e1 : drC N X0 = 2 := by unfold drC; rw [hi, decide_eq_true h1]; rfl
    rw [e1]
    repeat' (first | ((apply bC 46; refine JL_o (by exact aF en46 rfl (eG _ a a2 n c n2 c2 N E (h.st hs) (hE0.st hs) hn2 hz)) rfl rfl ?_; rintro _ _ ⟨rfl, hE⟩; rw [he]; have hs := hs.ext hE; (try simp only [zcc] at hs))) | ((apply bC 105; refine JL_o (by exact aF fE rfl (is_r _ a a2 n c n2 c2 N X0 (h.st hs) hx0)) rfl rfl ?_; rintro _ _ ⟨rfl, hE⟩; rw [hi]; have hs := hs.ext hE; (try simp only [zcc] at hs))) | (apply aT) | ((first | (apply aM) | (apply bO; exact rfl; exact gb)); (first | (apply aW; first | exact aU hs rfl rfl aA | exact aI hs rfl aA) | (apply aR; exact aH rfl aA) | (apply aC; exact aB rfl aA) | (apply aL; exact aO rfl rfl rfl aA) | (apply bX; exact bY rfl aA) | (apply bR; exact bG rfl gb rfl aA) | (apply dD; exact cY rfl (by (simp only [bld, dA, cB, Value.cells, List.take_succ_cons, List.take_zero, List.drop_succ_cons, List.drop_zero, List.cons_append, List.nil_append, List.length_cons, List.length_nil, List.getElem?_cons_zero, List.getElem?_cons_succ, Option.map_some, List.append_nil, Nat.reduceAdd, Nat.reduceMul, Nat.zero_add, Nat.reduceLeDiff, and_self, if_true, List.toList_toArray, Nat.le_refl, Nat.zero_mul, Nat.one_mul]; first | done | rfl)) aA)); first | (exact rfl; exact rfl) | exact rfl) | (apply bD) | (apply aG) | (apply bH) | (apply aP (t := 2); refine JL_o (by apply cI; exact bS hs rfl) rfl rfl ?_; rintro _ _ ⟨b2, rfl, hb2, hs, hE⟩) | (apply aP (t := 3); refine JL_o (by apply cI; exact bS hs rfl) rfl rfl ?_; rintro _ _ ⟨b3, rfl, hb3, hs, hE⟩) | (apply aP (t := 4); refine JL_o (by apply bB; exact aV hs) rfl rfl ?_; rintro _ _ ⟨b4, rfl, hb4, hs, hE⟩) | (apply bK; refine JL_u (by apply bE; exact aX hs rfl rfl rfl) rfl ?_; rintro _ _ ⟨hs, hF⟩) | (apply aS; first | refine bF rfl ob ?_ | refine bQ rfl ob ?_))
    refine aY Tryz.func38 rfl (.agg' hs rfl rfl (.tmp rfl .nil)) (.inl ⟨by decide, rfl, hs.frm.ext⟩)
  have e1 : drC N X0 = 0 := by unfold drC; rw [hi, decide_eq_false h1]; rfl
  obtain ⟨p, x, rfl, hxp, hxu⟩ := isM_true.1 hi
  have e2 : drL N ((p : Int) + 1) = jN N p := by unfold drL; rw [if_pos e1, show ((p : Int) + 1 - 1).toNat = p by omega]
  rw [e1, e2]
  have hpl := (List.getElem?_eq_some_iff.1 hxp).1
  obtain ⟨r0, hr0, hrel0⟩ := hm.get hxp
  obtain ⟨u1, mT, u3, u4⟩ := kU hrel0
  have hr0' : rs[((p : Int) + 1 - 1).toNat]? = some r0 := by rw [show ((p : Int) + 1 - 1).toNat = p by omega]; exact hr0
  have hbx : 0 ≤ (p : Int) + 1 - 1 ∧ (p : Int) + 1 - 1 < n := by omega
  have ip : ((p : Int) + 1 - 1).toNat = p := by omega
  obtain ⟨b0, o0, rfl⟩ := hr.sl.addr (by omega)
  have hdr := vT hc hxp hxu
  repeat' (first | ((apply bC 46; refine JL_o (by exact aF en46 rfl (eG _ (some ⟨b0, o0, none⟩) a2 n c n2 c2 N E (h.st hs) (hE0.st hs) hn2 hz)) rfl rfl ?_; rintro _ _ ⟨rfl, hE⟩; rw [he]; have hs := hs.ext hE; (try simp only [zcc] at hs))) | ((apply bC 105; refine JL_o (by exact aF fE rfl (is_r _ (some ⟨b0, o0, none⟩) a2 n c n2 c2 N ((p : Int) + 1) (h.st hs) hx0)) rfl rfl ?_; rintro _ _ ⟨rfl, hE⟩; rw [hi]; have hs := hs.ext hE; (try simp only [zcc] at hs))) | ((apply ax_c; apply iL 106; exact rfl; (intro W X hN hs; exact aF en106 rfl (drop_ok _ a2 n2 c2 E r0.2.1.1 r0.2.1.2.1 r0.2.1.2.2 x.2.1 (hE0.st hs) hn2 (mT.st hs) hdr)); (rintro _ _ _ _ ⟨i0, e0, rs1, a4, c4, ⟨he0, he01, he0t⟩, rfl, hf⟩; first | exact hE | exact Fresh.ext hf); rintro W X _ _ hN hs ⟨i0, e0, rs1, a4, c4, ⟨he0, he01, he0t⟩, rfl, hf⟩; have hs := hs.fresh hf; (try simp only [zcc] at hs); refine JX.at hs ?_)) | ((apply bC 107; refine JL_o (by exact aF aBc rfl (tW _ (some ⟨b0, o0, none⟩) a4 n c n2 c4 N (E.set i0 gone) (h.st hs) (jL hs zmm zmm) (by omega) hn2 hz (jS (nV hcE he0 he01)))) rfl rfl ?_; rintro _ _ ⟨qs, rs', a', a2', ⟨hqm, hqo⟩, rfl, hf⟩; have hs := hs.fresh hf; simp only [zcc] at hs; obtain ⟨b, o, rfl⟩ := (hs.row a' n n).some (by omega); have hql : qs.length = n := (by have := congrArg List.length hqm; rw [List.length_map] at this; omega); have hset : cB (encL cNd (qs.map rawN)) (((p : Int) + 1 - 1).toNat * 4) (cNd r00) = encL cNd ((qs.map rawN).set p r00) := (by rw [ip]; exact sG _ p r00 (by rw [List.length_map]; omega)); (try simp only [zcc] at hs))) | ((apply ax_c; apply JX_cu; exact rfl; (intro W X hN hs; exact jA (by apply bE; exact aX hs rfl rfl rfl) (St.zfoot (A := [_]) (C0 := [_, _, _]) (show St _ _ _ ([_] ++ [_, _, _]) from hs.sel [1, 4, 5, 6] (by decide)) hZZ)); (rintro _ _ _ _ ⟨⟨_, hF⟩, hzz⟩; exact Frm.rlZ hF (fun k hk => hzz k ⟨_, List.mem_singleton_self _, by rw [show k = b7 from hk]; exact gF _ _⟩)); exact rfl; rintro W X _ _ hN hs0 ⟨⟨hs, hF⟩, hzz⟩; refine JX.at hs ?_)) | ((apply bK; refine JL_u (by apply bE; exact dS (b := b) (o := o) (off := ((p : Int) + 1 - 1).toNat * 4) (n := n) (c := n) (vs := cNd r00) hs rfl rfl rfl rfl (by simp [Value.oneCell']) (by show ((p : Int) + 1 - 1).toNat * 4 + 4 ≤ n * 4; omega)) rfl ?_; rintro _ _ ⟨hs, hF⟩; rw [hset] at hs)) | (apply aT) | ((first | (apply aM) | (apply bO; exact rfl; exact gb) | (apply aB2; exact rfl; intro W hs)); (first | (apply aW; first | exact aU hs rfl rfl aA | exact aI hs rfl aA | exact bJ (i := ((p : Int) + 1 - 1).toNat) (j := 1) (hr.st hs) hr0' rfl rfl rfl aA) | (apply aR; exact aH rfl aA) | (apply aC; exact aB rfl aA) | (apply aQ; first | exact aK rfl rfl aA | exact bN rfl rfl aA) | (apply dQ; exact dG rfl rfl (by omega) aA) | (apply aL; exact aO rfl rfl rfl aA) | (apply bX; exact bY rfl aA) | (apply bR; exact bG rfl gb rfl aA) | (apply bM; exact bU rfl aA) | (apply cK; exact cA rfl rfl aA) | (apply fD; exact gW rfl aA) | (apply aN; exact aJ rfl rfl (by omega) (by omega) aA) | (apply dD; exact cY rfl (by (simp only [bld, dA, cB, Value.cells, List.take_succ_cons, List.take_zero, List.drop_succ_cons, List.drop_zero, List.cons_append, List.nil_append, List.length_cons, List.length_nil, List.getElem?_cons_zero, List.getElem?_cons_succ, Option.map_some, List.append_nil, Nat.reduceAdd, Nat.reduceMul, Nat.zero_add, Nat.reduceLeDiff, and_self, if_true, List.toList_toArray, Nat.le_refl, Nat.zero_mul, Nat.one_mul]; first | done | rfl)) aA)); first | (exact rfl; exact rfl) | exact rfl) | (apply bD) | (apply aG) | (apply bA) | (apply bH) | (apply aP (t := 2); refine JL_o (by apply cI; exact bS hs rfl) rfl rfl ?_; rintro _ _ ⟨b2, rfl, hb2, hs, hE⟩) | (apply aP (t := 3); refine JL_o (by apply cI; exact bS hs rfl) rfl rfl ?_; rintro _ _ ⟨b3, rfl, hb3, hs, hE⟩) | (apply aP (t := 4); refine JL_o (by apply bB; exact aV hs) rfl rfl ?_; rintro _ _ ⟨b4, rfl, hb4, hs, hE⟩) | (apply ax_n; refine JX_n (t := 7) rfl (fun W L hs => by apply bB; exact aV hs) rfl ?_) | (apply ax_k; (first | refine JX_k (t := 7) ?_ | refine JX_k2 (t := 7) rfl ?_); intro b7) | (apply bK; refine JL_u (by apply bE; exact aX hs rfl rfl rfl) rfl ?_; rintro _ _ ⟨hs, hF⟩) | (apply aS; refine bQ rfl ob ?_) | (apply cW; (refine aB0 (id := 6) [0, 1, 0, 4, 0, 16, 60, 124, 252, 511, 1023, 2047, 2047, 0, 12287, 32767] [(0, 0), (1, 0), (2, 0), (3, 0), (4, 0), (5, 0), (6, 0), (7, 0), (8, 0), (13, 2), (9, 1), (10, 0), (11, 0), (12, 0), (13, 3), (14, 1), (15, 0)] [] [] [_, _, _] (show St _ _ _ [_, _, _] from hs.sel [0, 1, 2] (by decide)) rfl dP (by kernel_rfl) (by kernel_rfl) (by kernel_rfl) (by kernel_rfl) (by kernel_rfl) ?_; intro ZZ hZZ)) | (refine cV (fun W hs => ?_)) | (apply dC))
  have hs := hs.zeroN false
  obtain ⟨q0, hq0⟩ : ∃ q0, qs[p]? = some q0 := ⟨_, List.getElem?_eq_getElem (by omega)⟩
  have hs := St.replN (L := [_, _, _, _, _, _]) hq0 (hs.sel [0, 2, 1, 3, 4, 8, 9, 10] (by decide))
  obtain ⟨qs1, hqs1⟩ : ∃ l, l = qs.set p (false, (z0, []), (z0, []), (z0, [])) := ⟨_, rfl⟩
  have hqm1 : qs1.map iE = N.set p n0 := by rw [hqs1, List.map_set, hqm]
  have hqr1 : qs1.map rawN = (qs.map rawN).set p r00 := by rw [hqs1, List.map_set]
  have hqo1 : ∀ q ∈ qs1, okN q := by rw [hqs1]; exact jE hqo (wM false)
  rw [← hqs1, ← hqr1] at hs
  obtain ⟨N1, hN1⟩ : ∃ l, l = N.set p n0 := ⟨_, rfl⟩
  rw [← hN1] at hqm1
  have hN1l : N1.length = n := by rw [hN1, List.length_set, hl]
  have hz1 : szN N1 := by
    rw [hN1]
    intro u hu
    rcases List.mem_or_eq_of_mem_set hu with e | e
    · exact hz u e
    · rw [e]; exact ⟨by show 0 ≤ 1000000; omega, by show 0 ≤ 1000000; omega, by show 0 ≤ 1000000; omega⟩
  refine cZ (α := Nat × List QN) [(2, _), (4, _), (9, _), (57, _)] (fun g => [(58, .int .i64 g.1)]) (fun g w' => St w NoF w' [OwnN g.2, TabN (some ⟨b, o, none⟩) n n (g.2.map rawN), dL a2' n2 n2 rs', Own rs' (E.set i0 gone), Blk b4 (.cells #[.slice none 0 0, .slice none 0 0] 57 (0, 0)), Blk b3 (.cells #[.int .i64 ((p : Int) + 1)] 3 (0, 0)), Blk b2 (.cells #[.slice (some ⟨b, o, none⟩) n n, .slice a2' n2 n2] 57 (0, 0))] ∧ (g.2.map iE = (N1.take g.1).map (vW ((p : Int) + 1)) ++ N1.drop g.1 ∧ ∀ q ∈ g.2, okN q) ∧ g.1 ≤ n) (fun g => n - g.1) (0, qs1) ⟨hs, ⟨hqm1, hqo1⟩, Nat.zero_le _⟩ zss ?_
  rintro ⟨i, qi⟩ w2 ⟨hs1, ⟨hqmi, hqoi⟩, hin⟩ ih
  dsimp only at hs1 hqmi hqoi hin ih ⊢
  have hs : St w NoF w2 [_, _, _, _, _, _, _] := hs1
  by_cases hlt : i < n
  · obtain ⟨y, hy⟩ : ∃ y, N1[i]? = some y := ⟨_, List.getElem?_eq_getElem (by omega)⟩
    obtain ⟨z1, z2, z3⟩ := hz1 y (List.mem_of_getElem? hy)
    have hgi : ((N1.take i).map (vW ((p : Int) + 1)) ++ N1.drop i)[i]? = some y := by
      rw [List.getElem?_append_right (by rw [List.length_map, List.length_take]; omega), List.length_map, List.length_take, List.getElem?_drop, show i + (i - min i N1.length) = i by omega]; exact hy
    obtain ⟨q, hq, hqy⟩ := pH hqmi hgi
    obtain ⟨y1, y2, y3, y4⟩ := rY hqy
    obtain ⟨⟨o1, o2⟩, ⟨o3, o4⟩, ⟨o5, o6⟩⟩ := hqoi q (List.mem_of_getElem? hq)
    have hql1 := (List.getElem?_eq_some_iff.1 hq).1
    have hraw : (qi.map rawN)[i]? = some (rawN q) := by rw [List.getElem?_map, hq]; rfl
    have hc2 : (encL cNd (qi.map rawN))[i * 4 + 2]? = some (.slice q.2.2.1.1.1 q.2.2.1.1.2.1 q.2.2.1.1.2.2) := by
      rw [show (encL cNd (qi.map rawN))[i * 4 + 2]? = (cNd (rawN q))[2]? from fA (d := dRNd) (qi.map rawN) i 2 (rawN q) hraw (by show 2 < 4; omega)]; rfl
    have hc3 : (encL cNd (qi.map rawN))[i * 4 + 3]? = some (.slice q.2.2.2.1.1 q.2.2.2.1.2.1 q.2.2.2.1.2.2) := by
      rw [show (encL cNd (qi.map rawN))[i * 4 + 3]? = (cNd (rawN q))[3]? from fA (d := dRNd) (qi.map rawN) i 3 (rawN q) hraw (by show 3 < 4; omega)]; rfl
    have hg24 : ((qi.map rawN).set i (q.1, q.2.1.1, (q.2.2.1.1.1, (fF q.2.2.1.2 ((p : Int) + 1)).length, q.2.2.1.1.2.2), q.2.2.2.1))[i]? = some (q.1, q.2.1.1, (q.2.2.1.1.1, (fF q.2.2.1.2 ((p : Int) + 1)).length, q.2.2.1.1.2.2), q.2.2.2.1) := List.getElem?_set_self (by rw [List.length_map]; exact hql1)
    have hset24 : cB (encL cNd (qi.map rawN)) (i * 4 + 2) [.slice q.2.2.1.1.1 (fF q.2.2.1.2 ((p : Int) + 1)).length q.2.2.1.1.2.2] = encL cNd ((qi.map rawN).set i (q.1, q.2.1.1, (q.2.2.1.1.1, (fF q.2.2.1.2 ((p : Int) + 1)).length, q.2.2.1.1.2.2), q.2.2.2.1)) := pZ _ i (rawN q) _ _ _ hraw
    have hset27 : cB (encL cNd ((qi.map rawN).set i (q.1, q.2.1.1, (q.2.2.1.1.1, (fF q.2.2.1.2 ((p : Int) + 1)).length, q.2.2.1.1.2.2), q.2.2.2.1))) (i * 4 + 3) [.slice q.2.2.2.1.1 (fF q.2.2.2.2 ((p : Int) + 1)).length q.2.2.2.1.2.2] = encL cNd ((qi.map rawN).set i (q.1, q.2.1.1, (q.2.2.1.1.1, (fF q.2.2.1.2 ((p : Int) + 1)).length, q.2.2.1.1.2.2), (q.2.2.2.1.1, (fF q.2.2.2.2 ((p : Int) + 1)).length, q.2.2.2.1.2.2))) := (pY _ i _ _ _ _ hg24).trans (by rw [List.set_set])
    obtain ⟨qn, hqn⟩ : ∃ qn : QN, qn = (q.1, q.2.1, ((q.2.2.1.1.1, (fF q.2.2.1.2 ((p : Int) + 1)).length, q.2.2.1.1.2.2), fF q.2.2.1.2 ((p : Int) + 1)), ((q.2.2.2.1.1, (fF q.2.2.2.2 ((p : Int) + 1)).length, q.2.2.2.1.2.2), fF q.2.2.2.2 ((p : Int) + 1))) := ⟨_, rfl⟩
    have hqno : okN qn := by rw [hqn]; exact ⟨⟨o1, o2⟩, ⟨rfl, fun s hs => o4 s (List.mem_filter.1 hs).1⟩, ⟨rfl, fun s hs => o6 s (List.mem_filter.1 hs).1⟩⟩
    have hqnx : iE qn = vW ((p : Int) + 1) y := by rw [hqn]; exact nm_eq.2 ⟨y1, y2, by show fF q.2.2.1.2 _ = fF y.2.2.1 _; rw [y3], by show fF q.2.2.2.2 _ = fF y.2.2.2 _; rw [y4]⟩
    have hqnr : (qi.set i qn).map rawN = (qi.map rawN).set i (q.1, q.2.1.1, (q.2.2.1.1.1, (fF q.2.2.1.2 ((p : Int) + 1)).length, q.2.2.1.1.2.2), (q.2.2.2.1.1, (fF q.2.2.2.2 ((p : Int) + 1)).length, q.2.2.2.1.2.2)) := by rw [List.map_set, hqn]
    have hqnm : (qi.set i qn).map iE = (N1.take (i + 1)).map (vW ((p : Int) + 1)) ++ N1.drop (i + 1) := by
      rw [List.map_set, hqmi, hqnx, pE _ N1 i _ (by rw [List.length_map, List.length_take]; omega) (by omega), List.take_add_one, hy, List.map_append]; rfl
    have hn2' : q.2.2.1.1.2.1 ≤ 4000000 := by rw [o3, y3]; omega
    have hn3' : q.2.2.2.1.2.1 ≤ 4000000 := by rw [o5, y4]; omega
    repeat' (first | ((apply xH 16; refine hold ?_)) | (apply aT) | ((apply aM); (first | (apply aR; exact aH rfl aA) | (apply aC; exact aB rfl aA) | (apply aL; exact aO rfl rfl rfl aA)); first | (exact rfl; exact rfl) | exact rfl) | (apply bD) | (apply aG) | (apply bA) | (apply bH) | (apply aS; refine bF rfl ob ?_))
    refine kR ?_
    have hs := St.unpackN (St.takeN hq (hs.sel [0, 1, 2, 3, 4, 5, 6] (by decide)))
    have hs : St w NoF _ ([row2 q, row3 q, TabN (some ⟨b, o, none⟩) n n (qi.map rawN)] ++ [row1 q, OwnN (qi.take i ++ qi.drop (i + 1)), dL a2' n2 n2 rs', Own rs' (E.set i0 gone), Blk b4 (.cells #[.slice none 0 0, .slice none 0 0] 57 (0, 0)), Blk b3 (.cells #[.int .i64 ((p : Int) + 1)] 3 (0, 0)), Blk b2 (.cells #[.slice (some ⟨b, o, none⟩) n n, .slice a2' n2 n2] 57 (0, 0))]) := hs.sel [1, 2, 4, 0, 3, 5, 6, 7, 8, 9] (by decide)
    obtain ⟨ZZ, hZZ⟩ : ∃ Z : Nat → Prop, ∀ k, Z k ↔ ((NoF k ∨ w.heap.size ≤ k) ∧ ∀ c ∈ [row1 q, OwnN (qi.take i ++ qi.drop (i + 1)), dL a2' n2 n2 rs', Own rs' (E.set i0 gone), Blk b4 (.cells #[.slice none 0 0, .slice none 0 0] 57 (0, 0)), Blk b3 (.cells #[.int .i64 ((p : Int) + 1)] 3 (0, 0)), Blk b2 (.cells #[.slice (some ⟨b, o, none⟩) n n, .slice a2' n2 n2] 57 (0, 0))], ¬ c.foot k) := ⟨_, fun _ => Iff.rfl⟩
    refine J_draw (id := 16) ZZ [0, 1, 0, 0, 8, 0, 0, 64, 0, 448, 960, 1984, 0, 8128, 0, 16384, 0, 114688, 245760, 507904, 0, 2097088, 4194247, 8388551, 16777159, 33554431, 67108863, 134217727] [(0, false), (1, false), (2, false), (3, false), (4, false), (5, false), (6, false), (7, false), (8, false), (9, false), (10, false), (12, false), (14, false), (15, false), (16, false), (17, false), (18, false), (20, false), (11, false), (13, false), (19, false), (21, false), (22, false), (23, false), (24, false), (25, false), (26, false)] [27] dP (by kernel_rfl) (by kernel_rfl) ?_
    intro _ hE _
    have hs : St w NoF _ ([row2 q, row3 q, TabN (some ⟨b, o, none⟩) n n (qi.map rawN)] ++ [row1 q, OwnN (qi.take i ++ qi.drop (i + 1)), dL a2' n2 n2 rs', Own rs' (E.set i0 gone), Blk b4 (.cells #[.slice none 0 0, .slice none 0 0] 57 (0, 0)), Blk b3 (.cells #[.int .i64 ((p : Int) + 1)] 3 (0, 0)), Blk b2 (.cells #[.slice (some ⟨b, o, none⟩) n n, .slice a2' n2 n2] 57 (0, 0))]) := hs.ext hE
    repeat' (first | (apply oA; exact rfl; (intro W hRl; have hs := St.rlV (A := [_, _, _]) (C0 := [_, _, _, _, _, _, _]) hs hZZ hRl; first | (apply aR; exact aH rfl aA) | (apply aQ; first | exact aK rfl rfl aA | exact bN rfl rfl aA) | (apply aN; exact aJ rfl rfl (by omega) (by omega) aA) | (apply aW; exact aU hs rfl rfl aA)); exact rfl))
    refine iH [11, 19] rfl (by kernel_rfl) ⟨?_, ?_, trivial⟩
    · have hsl : St w NoF _ [_, _, _, _, _, _, _, _, _, _] := hs
      refine lV (t := 72) [(13, false), (19, false), (21, false), (22, false), (23, false), (24, false), (25, false), (26, false)] (by kernel_rfl) (by kernel_rfl) (by kernel_rfl) (by kernel_rfl) rfl rfl (by apply aW; exact fY (b := b) (o := o) (off := i * 4 + 2) (n := n) (c := n) hsl rfl hc2 aA) (fun _ _ h9 => by rw [(mJ h9).2]; exact Rl.refl _) ?_
      intro _ _ h9
      obtain ⟨rfl, rfl⟩ := mJ h9
      clear hsl
      refine iH [13, 19] rfl (by kernel_rfl) ⟨?_, ?_, trivial⟩
      · have hz3 := St.zfoot (A := [_, _, _]) (C0 := [_, _, _, _, _, _, _]) hs hZZ
        have hb3 := iA (hs.all (Blk b3 (.cells #[.int .i64 ((p : Int) + 1)] 3 (0, 0))) (List.mem_append_right _ (.tail _ (.tail _ (.tail _ (.tail _ (.tail _ (.head _))))))))
        have hsc : St w NoF _ ([row2 q] ++ [_, _, _, _, _, _, _, _, _]) := hs
        have hne3 := kZ (b := b3) (o := .cells #[.int .i64 ((p : Int) + 1)] 3 (0, 0)) hsc zmm
        refine lV (t := 74) [(19, false), (21, false), (22, false), (23, false), (24, false), (25, false), (26, false)] (by kernel_rfl) (by kernel_rfl) (by kernel_rfl) (by kernel_rfl) rfl rfl (jA (aF yP rfl (nS _ q.2.2.1.1.1 q.2.2.1.1.2.1 q.2.2.1.1.2.2 q.2.2.1.2 (St.held (A := [_]) hsc) o4 hn2' 108 #[ptr b3] yQ (fun x => decide (x.2 = (p : Int) + 1)) (fun W hW x hx => mB W x _ b3 ((hW b3 (Array.getElem?_eq_some_iff.1 hb3).1 (fun hf => hne3 b3 ⟨_, List.mem_singleton_self _, gX hf⟩ rfl)).trans hb3)))) (fun k hk => hz3 k ⟨_, .head _, gX (jD hk)⟩)) (by rintro _ _ ⟨⟨rfl, ht⟩, hzz⟩; exact Frm.rlZ ht.frm hzz) ?_
        rintro _ _ ⟨⟨rfl, ht⟩, hzz⟩
        have hsd := St.take (A := [_]) (A' := [_]) (L := [_, _, _, _, _, _, _, _, _]) hsc ht
        have hs : St w NoF _ ([_, _, _] ++ [_, _, _, _, _, _, _]) := hsd
        clear hz3 hb3 hne3 hsc hsd ht hzz
        refine iH [19] rfl (by kernel_rfl) ⟨?_, trivial⟩
        have hsl : St w NoF _ [_, _, _, _, _, _, _, _, _, _] := hs
        refine lV (t := 80) [(21, false), (22, false), (23, false), (24, false), (25, false), (26, false)] (by kernel_rfl) (by kernel_rfl) (by kernel_rfl) (by kernel_rfl) rfl rfl (by apply aW; exact fY (b := b) (o := o) (off := i * 4 + 3) (n := n) (c := n) hsl rfl hc3 aA) (fun _ _ h9 => by rw [(mJ h9).2]; exact Rl.refl _) ?_
        intro _ _ h9
        obtain ⟨rfl, rfl⟩ := mJ h9
        clear hsl
        refine iH [21] rfl (by kernel_rfl) ⟨?_, trivial⟩
        have hz3 := St.zfoot (A := [_, _, _]) (C0 := [_, _, _, _, _, _, _]) hs hZZ
        have hb3 := iA (hs.all (Blk b3 (.cells #[.int .i64 ((p : Int) + 1)] 3 (0, 0))) (List.mem_append_right _ (.tail _ (.tail _ (.tail _ (.tail _ (.tail _ (.head _))))))))
        have hsc : St w NoF _ ([row3 q] ++ [_, _, _, _, _, _, _, _, _]) := (show St w NoF _ [_, _, _, _, _, _, _, _, _, _] from hs).sel [1, 0, 2, 3, 4, 5, 6, 7, 8, 9] (by decide)
        have hne3 := kZ (b := b3) (o := .cells #[.int .i64 ((p : Int) + 1)] 3 (0, 0)) hsc zmm
        refine lV (t := 82) [(22, false), (23, false), (24, false), (25, false), (26, false)] (by kernel_rfl) (by kernel_rfl) (by kernel_rfl) (by kernel_rfl) rfl rfl (jA (aF yP rfl (nS _ q.2.2.2.1.1 q.2.2.2.1.2.1 q.2.2.2.1.2.2 q.2.2.2.2 (St.held (A := [_]) hsc) o6 hn3' 108 #[ptr b3] yQ (fun x => decide (x.2 = (p : Int) + 1)) (fun W hW x hx => mB W x _ b3 ((hW b3 (Array.getElem?_eq_some_iff.1 hb3).1 (fun hf => hne3 b3 ⟨_, List.mem_singleton_self _, gX hf⟩ rfl)).trans hb3)))) (fun k hk => hz3 k ⟨_, .tail _ (.head _), gX (jD hk)⟩)) (by rintro _ _ ⟨⟨rfl, ht⟩, hzz⟩; exact Frm.rlZ ht.frm hzz) ?_
        rintro _ _ ⟨⟨rfl, ht⟩, hzz⟩
        have hsd := St.take (A := [_]) (A' := [_]) (L := [_, _, _, _, _, _, _, _, _]) hsc ht
        have hs : St w NoF _ ([_, _, _] ++ [_, _, _, _, _, _, _]) := (show St w NoF _ [_, _, _, _, _, _, _, _, _, _] from hsd).sel [1, 0, 2, 3, 4, 5, 6, 7, 8, 9] (by decide)
        clear hz3 hb3 hne3 hsc hsd ht hzz
        (apply oA; exact rfl; (intro W hRl; have hs := St.rlV (A := [_, _, _]) (C0 := [_, _, _, _, _, _, _]) hs hZZ hRl; first | (apply aQ; first | exact aK rfl rfl aA | exact bN rfl rfl aA) | (apply aN; exact aJ rfl rfl (by omega) (by omega) aA)); exact rfl)
        (apply oA; exact rfl; (intro W hRl; have hs := St.rlV (A := [_, _, _]) (C0 := [_, _, _, _, _, _, _]) hs hZZ hRl; first | (apply aQ; first | exact aK rfl rfl aA | exact bN rfl rfl aA) | (apply aN; exact aJ rfl rfl (by omega) (by omega) aA)); exact rfl)
        refine iH [24] rfl (by kernel_rfl) ⟨?_, trivial⟩
        have hz3 := St.zfoot (A := [_, _, _]) (C0 := [_, _, _, _, _, _, _]) hs hZZ
        have hsl : St w NoF _ [_, _, _, _, _, _, _, _, _, _] := hs
        refine aB4 [(25, false), (26, false)] (by kernel_rfl) (by kernel_rfl) (by kernel_rfl) (by kernel_rfl) rfl rfl (jA (by apply bE; exact dS (b := b) (o := o) (off := i * 4 + 2) (n := n) (c := n) (vs := [.slice q.2.2.1.1.1 (fF q.2.2.1.2 ((p : Int) + 1)).length q.2.2.1.1.2.2]) hsl rfl rfl rfl rfl (by simp [Value.oneCell']) (by show i * 4 + 2 + 1 ≤ n * 4; omega)) (fun k hk => hz3 k ⟨_, .tail _ (.tail _ (.head _)), gX hk⟩)) (by rintro _ _ ⟨⟨_, hF⟩, hzz⟩; exact Frm.rlZ hF hzz) ?_
        rintro _ _ ⟨⟨hs, hF⟩, hzz⟩
        rw [hset24] at hs
        have hs : St w NoF _ ([_, _, _] ++ [_, _, _, _, _, _, _]) := hs
        clear hz3 hsl hF hzz
        (apply oA; exact rfl; (intro W hRl; have hs := St.rlV (A := [_, _, _]) (C0 := [_, _, _, _, _, _, _]) hs hZZ hRl; first | (apply aQ; first | exact aK rfl rfl aA | exact bN rfl rfl aA) | (apply aN; exact aJ rfl rfl (by omega) (by omega) aA)); exact rfl)
        (apply oA; exact rfl; (intro W hRl; have hs := St.rlV (A := [_, _, _]) (C0 := [_, _, _, _, _, _, _]) hs hZZ hRl; first | (apply aQ; first | exact aK rfl rfl aA | exact bN rfl rfl aA) | (apply aN; exact aJ rfl rfl (by omega) (by omega) aA)); exact rfl)
        (apply fW; case' hos => (simp only [List.map_cons, List.map_nil, List.getElem?_toArray, List.getElem?_cons_succ, List.getElem?_cons_zero]; repeat' (first | exact gZ | apply fU)))
        apply bK
        have hsl : St w NoF _ [_, _, _, _, _, _, _, _, _, _] := hs
        refine JL_u (by apply bE; exact dS (b := b) (o := o) (off := i * 4 + 3) (n := n) (c := n) (vs := [.slice q.2.2.2.1.1 (fF q.2.2.2.2 ((p : Int) + 1)).length q.2.2.2.1.2.2]) hsl rfl rfl rfl rfl (by simp [Value.oneCell']) (by show i * 4 + 3 + 1 ≤ n * 4; omega)) rfl ?_
        rintro _ _ ⟨hs, hF⟩
        rw [hset27] at hs
        repeat' (first | (apply aT) | ((apply aM); (first | (apply aR; exact aH rfl aA) | (apply cJ; exact bT rfl rfl (by omega) (by first | (simp only [Int.reduceAdd]; exact rfl) | exact rfl) aA)); first | (exact rfl; exact rfl) | exact rfl) | (apply aG) | (apply bP))
        have hs := St.packN (q := (q.1, q.2.1, ((q.2.2.1.1.1, (fF q.2.2.1.2 ((p : Int) + 1)).length, q.2.2.1.1.2.2), fF q.2.2.1.2 ((p : Int) + 1)), ((q.2.2.2.1.1, (fF q.2.2.2.2 ((p : Int) + 1)).length, q.2.2.2.1.2.2), fF q.2.2.2.2 ((p : Int) + 1)))) (L := [OwnN (qi.take i ++ qi.drop (i + 1)), _, _, _, _, _, _]) (hs.sel [3, 0, 1, 4, 2, 5, 6, 7, 8, 9] (by decide))
        rw [← hqn] at hs
        have hs := St.putN hql1 hs
        refine ih (i + 1, qi.set i qn) _ _ ⟨by dsimp only; rw [hqnr]; exact hs, ⟨hqnm, jE hqoi hqno⟩, by dsimp only; omega⟩ (by dsimp only; omega) zss
      · have hsl : St w NoF _ [_, _, _, _, _, _, _, _, _, _] := hs
        refine lV (t := 80) [(13, false), (21, false), (22, false), (23, false), (24, false), (25, false), (26, false)] (by kernel_rfl) (by kernel_rfl) (by kernel_rfl) (by kernel_rfl) rfl rfl (by apply aW; exact fY (b := b) (o := o) (off := i * 4 + 3) (n := n) (c := n) hsl rfl hc3 aA) (fun _ _ h9 => by rw [(mJ h9).2]; exact Rl.refl _) ?_
        intro _ _ h9
        obtain ⟨rfl, rfl⟩ := mJ h9
        clear hsl
        refine iH [13] rfl (by kernel_rfl) ⟨?_, trivial⟩
        have hz3 := St.zfoot (A := [_, _, _]) (C0 := [_, _, _, _, _, _, _]) hs hZZ
        have hb3 := iA (hs.all (Blk b3 (.cells #[.int .i64 ((p : Int) + 1)] 3 (0, 0))) (List.mem_append_right _ (.tail _ (.tail _ (.tail _ (.tail _ (.tail _ (.head _))))))))
        have hsc : St w NoF _ ([row2 q] ++ [_, _, _, _, _, _, _, _, _]) := hs
        have hne3 := kZ (b := b3) (o := .cells #[.int .i64 ((p : Int) + 1)] 3 (0, 0)) hsc zmm
        refine lV (t := 74) [(21, false), (22, false), (23, false), (24, false), (25, false), (26, false)] (by kernel_rfl) (by kernel_rfl) (by kernel_rfl) (by kernel_rfl) rfl rfl (jA (aF yP rfl (nS _ q.2.2.1.1.1 q.2.2.1.1.2.1 q.2.2.1.1.2.2 q.2.2.1.2 (St.held (A := [_]) hsc) o4 hn2' 108 #[ptr b3] yQ (fun x => decide (x.2 = (p : Int) + 1)) (fun W hW x hx => mB W x _ b3 ((hW b3 (Array.getElem?_eq_some_iff.1 hb3).1 (fun hf => hne3 b3 ⟨_, List.mem_singleton_self _, gX hf⟩ rfl)).trans hb3)))) (fun k hk => hz3 k ⟨_, .head _, gX (jD hk)⟩)) (by rintro _ _ ⟨⟨rfl, ht⟩, hzz⟩; exact Frm.rlZ ht.frm hzz) ?_
        rintro _ _ ⟨⟨rfl, ht⟩, hzz⟩
        have hsd := St.take (A := [_]) (A' := [_]) (L := [_, _, _, _, _, _, _, _, _]) hsc ht
        have hs : St w NoF _ ([_, _, _] ++ [_, _, _, _, _, _, _]) := hsd
        clear hz3 hb3 hne3 hsc hsd ht hzz
        refine iH [21] rfl (by kernel_rfl) ⟨?_, trivial⟩
        have hz3 := St.zfoot (A := [_, _, _]) (C0 := [_, _, _, _, _, _, _]) hs hZZ
        have hb3 := iA (hs.all (Blk b3 (.cells #[.int .i64 ((p : Int) + 1)] 3 (0, 0))) (List.mem_append_right _ (.tail _ (.tail _ (.tail _ (.tail _ (.tail _ (.head _))))))))
        have hsc : St w NoF _ ([row3 q] ++ [_, _, _, _, _, _, _, _, _]) := (show St w NoF _ [_, _, _, _, _, _, _, _, _, _] from hs).sel [1, 0, 2, 3, 4, 5, 6, 7, 8, 9] (by decide)
        have hne3 := kZ (b := b3) (o := .cells #[.int .i64 ((p : Int) + 1)] 3 (0, 0)) hsc zmm
        refine lV (t := 82) [(22, false), (23, false), (24, false), (25, false), (26, false)] (by kernel_rfl) (by kernel_rfl) (by kernel_rfl) (by kernel_rfl) rfl rfl (jA (aF yP rfl (nS _ q.2.2.2.1.1 q.2.2.2.1.2.1 q.2.2.2.1.2.2 q.2.2.2.2 (St.held (A := [_]) hsc) o6 hn3' 108 #[ptr b3] yQ (fun x => decide (x.2 = (p : Int) + 1)) (fun W hW x hx => mB W x _ b3 ((hW b3 (Array.getElem?_eq_some_iff.1 hb3).1 (fun hf => hne3 b3 ⟨_, List.mem_singleton_self _, gX hf⟩ rfl)).trans hb3)))) (fun k hk => hz3 k ⟨_, .tail _ (.head _), gX (jD hk)⟩)) (by rintro _ _ ⟨⟨rfl, ht⟩, hzz⟩; exact Frm.rlZ ht.frm hzz) ?_
        rintro _ _ ⟨⟨rfl, ht⟩, hzz⟩
        have hsd := St.take (A := [_]) (A' := [_]) (L := [_, _, _, _, _, _, _, _, _]) hsc ht
        have hs : St w NoF _ ([_, _, _] ++ [_, _, _, _, _, _, _]) := (show St w NoF _ [_, _, _, _, _, _, _, _, _, _] from hsd).sel [1, 0, 2, 3, 4, 5, 6, 7, 8, 9] (by decide)
        clear hz3 hb3 hne3 hsc hsd ht hzz
        (apply oA; exact rfl; (intro W hRl; have hs := St.rlV (A := [_, _, _]) (C0 := [_, _, _, _, _, _, _]) hs hZZ hRl; first | (apply aQ; first | exact aK rfl rfl aA | exact bN rfl rfl aA) | (apply aN; exact aJ rfl rfl (by omega) (by omega) aA)); exact rfl)
        (apply oA; exact rfl; (intro W hRl; have hs := St.rlV (A := [_, _, _]) (C0 := [_, _, _, _, _, _, _]) hs hZZ hRl; first | (apply aQ; first | exact aK rfl rfl aA | exact bN rfl rfl aA) | (apply aN; exact aJ rfl rfl (by omega) (by omega) aA)); exact rfl)
        refine iH [24] rfl (by kernel_rfl) ⟨?_, trivial⟩
        have hz3 := St.zfoot (A := [_, _, _]) (C0 := [_, _, _, _, _, _, _]) hs hZZ
        have hsl : St w NoF _ [_, _, _, _, _, _, _, _, _, _] := hs
        refine aB4 [(25, false), (26, false)] (by kernel_rfl) (by kernel_rfl) (by kernel_rfl) (by kernel_rfl) rfl rfl (jA (by apply bE; exact dS (b := b) (o := o) (off := i * 4 + 2) (n := n) (c := n) (vs := [.slice q.2.2.1.1.1 (fF q.2.2.1.2 ((p : Int) + 1)).length q.2.2.1.1.2.2]) hsl rfl rfl rfl rfl (by simp [Value.oneCell']) (by show i * 4 + 2 + 1 ≤ n * 4; omega)) (fun k hk => hz3 k ⟨_, .tail _ (.tail _ (.head _)), gX hk⟩)) (by rintro _ _ ⟨⟨_, hF⟩, hzz⟩; exact Frm.rlZ hF hzz) ?_
        rintro _ _ ⟨⟨hs, hF⟩, hzz⟩
        rw [hset24] at hs
        have hs : St w NoF _ ([_, _, _] ++ [_, _, _, _, _, _, _]) := hs
        clear hz3 hsl hF hzz
        (apply oA; exact rfl; (intro W hRl; have hs := St.rlV (A := [_, _, _]) (C0 := [_, _, _, _, _, _, _]) hs hZZ hRl; first | (apply aQ; first | exact aK rfl rfl aA | exact bN rfl rfl aA) | (apply aN; exact aJ rfl rfl (by omega) (by omega) aA)); exact rfl)
        (apply oA; exact rfl; (intro W hRl; have hs := St.rlV (A := [_, _, _]) (C0 := [_, _, _, _, _, _, _]) hs hZZ hRl; first | (apply aQ; first | exact aK rfl rfl aA | exact bN rfl rfl aA) | (apply aN; exact aJ rfl rfl (by omega) (by omega) aA)); exact rfl)
        (apply fW; case' hos => (simp only [List.map_cons, List.map_nil, List.getElem?_toArray, List.getElem?_cons_succ, List.getElem?_cons_zero]; repeat' (first | exact gZ | apply fU)))
        apply bK
        have hsl : St w NoF _ [_, _, _, _, _, _, _, _, _, _] := hs
        refine JL_u (by apply bE; exact dS (b := b) (o := o) (off := i * 4 + 3) (n := n) (c := n) (vs := [.slice q.2.2.2.1.1 (fF q.2.2.2.2 ((p : Int) + 1)).length q.2.2.2.1.2.2]) hsl rfl rfl rfl rfl (by simp [Value.oneCell']) (by show i * 4 + 3 + 1 ≤ n * 4; omega)) rfl ?_
        rintro _ _ ⟨hs, hF⟩
        rw [hset27] at hs
        repeat' (first | (apply aT) | ((apply aM); (first | (apply aR; exact aH rfl aA) | (apply cJ; exact bT rfl rfl (by omega) (by first | (simp only [Int.reduceAdd]; exact rfl) | exact rfl) aA)); first | (exact rfl; exact rfl) | exact rfl) | (apply aG) | (apply bP))
        have hs := St.packN (q := (q.1, q.2.1, ((q.2.2.1.1.1, (fF q.2.2.1.2 ((p : Int) + 1)).length, q.2.2.1.1.2.2), fF q.2.2.1.2 ((p : Int) + 1)), ((q.2.2.2.1.1, (fF q.2.2.2.2 ((p : Int) + 1)).length, q.2.2.2.1.2.2), fF q.2.2.2.2 ((p : Int) + 1)))) (L := [OwnN (qi.take i ++ qi.drop (i + 1)), _, _, _, _, _, _]) (hs.sel [3, 0, 1, 4, 2, 5, 6, 7, 8, 9] (by decide))
        rw [← hqn] at hs
        have hs := St.putN hql1 hs
        refine ih (i + 1, qi.set i qn) _ _ ⟨by dsimp only; rw [hqnr]; exact hs, ⟨hqnm, jE hqoi hqno⟩, by dsimp only; omega⟩ (by dsimp only; omega) zss
    · have hsl : St w NoF _ [_, _, _, _, _, _, _, _, _, _] := hs
      refine lV (t := 80) [(11, false), (13, false), (21, false), (22, false), (23, false), (24, false), (25, false), (26, false)] (by kernel_rfl) (by kernel_rfl) (by kernel_rfl) (by kernel_rfl) rfl rfl (by apply aW; exact fY (b := b) (o := o) (off := i * 4 + 3) (n := n) (c := n) hsl rfl hc3 aA) (fun _ _ h9 => by rw [(mJ h9).2]; exact Rl.refl _) ?_
      intro _ _ h9
      obtain ⟨rfl, rfl⟩ := mJ h9
      clear hsl
      refine iH [11] rfl (by kernel_rfl) ⟨?_, trivial⟩
      have hsl : St w NoF _ [_, _, _, _, _, _, _, _, _, _] := hs
      refine lV (t := 72) [(13, false), (21, false), (22, false), (23, false), (24, false), (25, false), (26, false)] (by kernel_rfl) (by kernel_rfl) (by kernel_rfl) (by kernel_rfl) rfl rfl (by apply aW; exact fY (b := b) (o := o) (off := i * 4 + 2) (n := n) (c := n) hsl rfl hc2 aA) (fun _ _ h9 => by rw [(mJ h9).2]; exact Rl.refl _) ?_
      intro _ _ h9
      obtain ⟨rfl, rfl⟩ := mJ h9
      clear hsl
      refine iH [13] rfl (by kernel_rfl) ⟨?_, trivial⟩
      have hz3 := St.zfoot (A := [_, _, _]) (C0 := [_, _, _, _, _, _, _]) hs hZZ
      have hb3 := iA (hs.all (Blk b3 (.cells #[.int .i64 ((p : Int) + 1)] 3 (0, 0))) (List.mem_append_right _ (.tail _ (.tail _ (.tail _ (.tail _ (.tail _ (.head _))))))))
      have hsc : St w NoF _ ([row2 q] ++ [_, _, _, _, _, _, _, _, _]) := hs
      have hne3 := kZ (b := b3) (o := .cells #[.int .i64 ((p : Int) + 1)] 3 (0, 0)) hsc zmm
      refine lV (t := 74) [(21, false), (22, false), (23, false), (24, false), (25, false), (26, false)] (by kernel_rfl) (by kernel_rfl) (by kernel_rfl) (by kernel_rfl) rfl rfl (jA (aF yP rfl (nS _ q.2.2.1.1.1 q.2.2.1.1.2.1 q.2.2.1.1.2.2 q.2.2.1.2 (St.held (A := [_]) hsc) o4 hn2' 108 #[ptr b3] yQ (fun x => decide (x.2 = (p : Int) + 1)) (fun W hW x hx => mB W x _ b3 ((hW b3 (Array.getElem?_eq_some_iff.1 hb3).1 (fun hf => hne3 b3 ⟨_, List.mem_singleton_self _, gX hf⟩ rfl)).trans hb3)))) (fun k hk => hz3 k ⟨_, .head _, gX (jD hk)⟩)) (by rintro _ _ ⟨⟨rfl, ht⟩, hzz⟩; exact Frm.rlZ ht.frm hzz) ?_
      rintro _ _ ⟨⟨rfl, ht⟩, hzz⟩
      have hsd := St.take (A := [_]) (A' := [_]) (L := [_, _, _, _, _, _, _, _, _]) hsc ht
      have hs : St w NoF _ ([_, _, _] ++ [_, _, _, _, _, _, _]) := hsd
      clear hz3 hb3 hne3 hsc hsd ht hzz
      refine iH [21] rfl (by kernel_rfl) ⟨?_, trivial⟩
      have hz3 := St.zfoot (A := [_, _, _]) (C0 := [_, _, _, _, _, _, _]) hs hZZ
      have hb3 := iA (hs.all (Blk b3 (.cells #[.int .i64 ((p : Int) + 1)] 3 (0, 0))) (List.mem_append_right _ (.tail _ (.tail _ (.tail _ (.tail _ (.tail _ (.head _))))))))
      have hsc : St w NoF _ ([row3 q] ++ [_, _, _, _, _, _, _, _, _]) := (show St w NoF _ [_, _, _, _, _, _, _, _, _, _] from hs).sel [1, 0, 2, 3, 4, 5, 6, 7, 8, 9] (by decide)
      have hne3 := kZ (b := b3) (o := .cells #[.int .i64 ((p : Int) + 1)] 3 (0, 0)) hsc zmm
      refine lV (t := 82) [(22, false), (23, false), (24, false), (25, false), (26, false)] (by kernel_rfl) (by kernel_rfl) (by kernel_rfl) (by kernel_rfl) rfl rfl (jA (aF yP rfl (nS _ q.2.2.2.1.1 q.2.2.2.1.2.1 q.2.2.2.1.2.2 q.2.2.2.2 (St.held (A := [_]) hsc) o6 hn3' 108 #[ptr b3] yQ (fun x => decide (x.2 = (p : Int) + 1)) (fun W hW x hx => mB W x _ b3 ((hW b3 (Array.getElem?_eq_some_iff.1 hb3).1 (fun hf => hne3 b3 ⟨_, List.mem_singleton_self _, gX hf⟩ rfl)).trans hb3)))) (fun k hk => hz3 k ⟨_, .tail _ (.head _), gX (jD hk)⟩)) (by rintro _ _ ⟨⟨rfl, ht⟩, hzz⟩; exact Frm.rlZ ht.frm hzz) ?_
      rintro _ _ ⟨⟨rfl, ht⟩, hzz⟩
      have hsd := St.take (A := [_]) (A' := [_]) (L := [_, _, _, _, _, _, _, _, _]) hsc ht
      have hs : St w NoF _ ([_, _, _] ++ [_, _, _, _, _, _, _]) := (show St w NoF _ [_, _, _, _, _, _, _, _, _, _] from hsd).sel [1, 0, 2, 3, 4, 5, 6, 7, 8, 9] (by decide)
      clear hz3 hb3 hne3 hsc hsd ht hzz
      (apply oA; exact rfl; (intro W hRl; have hs := St.rlV (A := [_, _, _]) (C0 := [_, _, _, _, _, _, _]) hs hZZ hRl; first | (apply aQ; first | exact aK rfl rfl aA | exact bN rfl rfl aA) | (apply aN; exact aJ rfl rfl (by omega) (by omega) aA)); exact rfl)
      (apply oA; exact rfl; (intro W hRl; have hs := St.rlV (A := [_, _, _]) (C0 := [_, _, _, _, _, _, _]) hs hZZ hRl; first | (apply aQ; first | exact aK rfl rfl aA | exact bN rfl rfl aA) | (apply aN; exact aJ rfl rfl (by omega) (by omega) aA)); exact rfl)
      refine iH [24] rfl (by kernel_rfl) ⟨?_, trivial⟩
      have hz3 := St.zfoot (A := [_, _, _]) (C0 := [_, _, _, _, _, _, _]) hs hZZ
      have hsl : St w NoF _ [_, _, _, _, _, _, _, _, _, _] := hs
      refine aB4 [(25, false), (26, false)] (by kernel_rfl) (by kernel_rfl) (by kernel_rfl) (by kernel_rfl) rfl rfl (jA (by apply bE; exact dS (b := b) (o := o) (off := i * 4 + 2) (n := n) (c := n) (vs := [.slice q.2.2.1.1.1 (fF q.2.2.1.2 ((p : Int) + 1)).length q.2.2.1.1.2.2]) hsl rfl rfl rfl rfl (by simp [Value.oneCell']) (by show i * 4 + 2 + 1 ≤ n * 4; omega)) (fun k hk => hz3 k ⟨_, .tail _ (.tail _ (.head _)), gX hk⟩)) (by rintro _ _ ⟨⟨_, hF⟩, hzz⟩; exact Frm.rlZ hF hzz) ?_
      rintro _ _ ⟨⟨hs, hF⟩, hzz⟩
      rw [hset24] at hs
      have hs : St w NoF _ ([_, _, _] ++ [_, _, _, _, _, _, _]) := hs
      clear hz3 hsl hF hzz
      (apply oA; exact rfl; (intro W hRl; have hs := St.rlV (A := [_, _, _]) (C0 := [_, _, _, _, _, _, _]) hs hZZ hRl; first | (apply aQ; first | exact aK rfl rfl aA | exact bN rfl rfl aA) | (apply aN; exact aJ rfl rfl (by omega) (by omega) aA)); exact rfl)
      (apply oA; exact rfl; (intro W hRl; have hs := St.rlV (A := [_, _, _]) (C0 := [_, _, _, _, _, _, _]) hs hZZ hRl; first | (apply aQ; first | exact aK rfl rfl aA | exact bN rfl rfl aA) | (apply aN; exact aJ rfl rfl (by omega) (by omega) aA)); exact rfl)
      (apply fW; case' hos => (simp only [List.map_cons, List.map_nil, List.getElem?_toArray, List.getElem?_cons_succ, List.getElem?_cons_zero]; repeat' (first | exact gZ | apply fU)))
      apply bK
      have hsl : St w NoF _ [_, _, _, _, _, _, _, _, _, _] := hs
      refine JL_u (by apply bE; exact dS (b := b) (o := o) (off := i * 4 + 3) (n := n) (c := n) (vs := [.slice q.2.2.2.1.1 (fF q.2.2.2.2 ((p : Int) + 1)).length q.2.2.2.1.2.2]) hsl rfl rfl rfl rfl (by simp [Value.oneCell']) (by show i * 4 + 3 + 1 ≤ n * 4; omega)) rfl ?_
      rintro _ _ ⟨hs, hF⟩
      rw [hset27] at hs
      repeat' (first | (apply aT) | ((apply aM); (first | (apply aR; exact aH rfl aA) | (apply cJ; exact bT rfl rfl (by omega) (by first | (simp only [Int.reduceAdd]; exact rfl) | exact rfl) aA)); first | (exact rfl; exact rfl) | exact rfl) | (apply aG) | (apply bP))
      have hs := St.packN (q := (q.1, q.2.1, ((q.2.2.1.1.1, (fF q.2.2.1.2 ((p : Int) + 1)).length, q.2.2.1.1.2.2), fF q.2.2.1.2 ((p : Int) + 1)), ((q.2.2.2.1.1, (fF q.2.2.2.2 ((p : Int) + 1)).length, q.2.2.2.1.2.2), fF q.2.2.2.2 ((p : Int) + 1)))) (L := [OwnN (qi.take i ++ qi.drop (i + 1)), _, _, _, _, _, _]) (hs.sel [3, 0, 1, 4, 2, 5, 6, 7, 8, 9] (by decide))
      rw [← hqn] at hs
      have hs := St.putN hql1 hs
      refine ih (i + 1, qi.set i qn) _ _ ⟨by dsimp only; rw [hqnr]; exact hs, ⟨hqnm, jE hqoi hqno⟩, by dsimp only; omega⟩ (by dsimp only; omega) zss
  · have hin2 : i = n := by omega
    subst hin2
    rw [List.take_of_length_le (by omega), List.drop_of_length_le (by omega), List.append_nil, hN1, away_map] at hqmi
    obtain ⟨ML, hML⟩ : ∃ l, l = N.mapIdx (offN p) := ⟨_, rfl⟩
    rw [← hML] at hqmi
    have hMLl : ML.length = i := by rw [hML, List.length_mapIdx, hl]
    have hdN : jN N p = ML.take (lE ML i) := by rw [hML]; unfold jN vD; rw [List.length_mapIdx, hl]
    obtain ⟨x0, hx00, hxu0, _⟩ := g.first
    have hp0 : p ≠ 0 := fun e => h1 (by rw [e]; rfl)
    have hM0 : (ML.getD 0 n0).1 = true := by
      have : ML[0]? = some (offN p 0 x0) := by rw [hML, List.getElem?_mapIdx, hx00]; rfl
      rw [dN this, gJ (fun e => hp0 e.symm)]
      exact hxu0
    have hlast1 : ∀ k, 1 ≤ k → 1 ≤ lE ML k := by
      intro k hk
      induction k with
      | zero => omega
      | succ k ihk =>
        unfold lE
        by_cases c9 : (ML.getD k n0).1 = true
        · rw [if_pos c9]; omega
        · rw [if_neg c9]
          by_cases e9 : k = 0
          · subst e9; exact absurd hM0 c9
          · exact ihk (by omega)
    repeat' (first | (apply aT) | ((apply aM); (first | (apply aW; first | exact aU hs rfl rfl aA | exact aI hs rfl aA) | (apply aC; exact aB rfl aA) | (apply aQ; exact aK rfl rfl aA) | (apply aL; exact aO rfl rfl rfl aA) | (apply bM; exact bU rfl aA)); first | (exact rfl; exact rfl) | exact rfl) | (apply bD) | (apply aG) | (apply bA) | (apply cF; refine cU rfl ?_) | (apply aS; refine bQ rfl ob ?_))
    clear ih
    refine cZ (α := Nat) [(2, _), (4, _)] (fun m => [(11, .int .i64 m)]) (fun m w' => St w NoF w' [OwnN qi, TabN (some ⟨b, o, none⟩) i i (qi.map rawN), dL a2' n2 n2 rs', Own rs' (E.set i0 gone), Blk b4 (.cells #[.slice none 0 0, .slice none 0 0] 57 (0, 0)), Blk b3 (.cells #[.int .i64 ((p : Int) + 1)] 3 (0, 0)), Blk b2 (.cells #[.slice (some ⟨b, o, none⟩) i i, .slice a2' n2 n2] 57 (0, 0))] ∧ (1 ≤ m ∧ m ≤ i) ∧ lE ML i = lE ML m) (fun m => m) i ⟨hs, ⟨by omega, Nat.le_refl _⟩, rfl⟩ zss ?_
    rintro m w3 ⟨hs3, ⟨hm1, hmi⟩, hlu⟩ ih
    have hs : St w NoF w3 [_, _, _, _, _, _, _] := hs3
    have hmi2 : inK .i64 (m : Int) := by unfold inK; simp only [IntKind.min, IntKind.max, IntKind.bits, IntKind.signed]; omega
    have hgm : ML[m - 1]? = some (ML[m - 1]'(by omega)) := List.getElem?_eq_getElem (by omega)
    have hsl : ∀ {W : World} {L : List HP}, St w NoF W L → TabN (some ⟨b, o, none⟩) i i (qi.map rawN) ∈ L → OwnN qi ∈ L → Sl fR All W (some ⟨b, o, none⟩) i i ML := fun hs u1 u2 => Sl.to hqmi (slN hs u1 u2 hqoi)
    have hlm : lE ML m = if (ML.getD (m - 1) n0).1 then m else lE ML (m - 1) := by
      obtain ⟨k, rfl⟩ : ∃ k, m = k + 1 := ⟨m - 1, by omega⟩
      rw [Nat.add_sub_cancel]; rfl
    obtain ⟨ub, hub⟩ : ∃ u, (ML.getD (m - 1) n0).1 = u := ⟨_, rfl⟩
    have his : isM ML (m : Int) = ub := by
      unfold isM
      rw [decide_eq_true (by omega), show ((m : Int) - 1).toNat = m - 1 by omega, hub]; rfl
    rw [hub] at hlm
    cases ub with
    | false =>
      rw [if_neg (by decide)] at hlm
      have hm2 : 2 ≤ m := Decidable.by_contra fun c9 => by
        have := hlast1 m hm1
        rw [hlm, show m - 1 = 0 by omega] at this
        unfold lE at this
        omega
      repeat' (first | ((apply bC 105; refine JL_o (by exact aF fE rfl (is_r _ (some ⟨b, o, none⟩) a2' i i n2 n2 ML (m : Int) (hsl hs zmm zmm) hmi2)) rfl rfl ?_; rintro _ _ ⟨rfl, hE⟩; rw [his]; have hs := hs.ext hE; (try simp only [zcc] at hs))) | (apply aT) | ((apply aM); (first | (apply aW; first | exact aU hs rfl rfl aA | exact aI hs rfl aA) | (apply aR; exact aH rfl aA) | (apply aC; exact aB rfl aA) | (apply dQ; exact dG rfl rfl (by omega) aA) | (apply bX; exact bY rfl aA)); first | (exact rfl; exact rfl) | exact rfl) | (apply bD) | (apply aG) | (apply bA) | (apply bP) | (apply bH) | (apply aS; refine bV rfl gb ?_))
      refine ih (m - 1) _ _ ⟨hs, ⟨by omega, by omega⟩, hlu.trans hlm⟩ (by omega) ?_
      rw [show ((m - 1 : Nat) : Int) = (m : Int) - 1 by omega]
      repeat' (first | exact trivial | exact rfl | apply And.intro)
    | true =>
      rw [if_pos rfl] at hlm
      repeat' (first | ((apply bC 105; refine JL_o (by exact aF fE rfl (is_r _ (some ⟨b, o, none⟩) a2' i i n2 n2 ML (m : Int) (hsl hs zmm zmm) hmi2)) rfl rfl ?_; rintro _ _ ⟨rfl, hE⟩; rw [his]; have hs := hs.ext hE; (try simp only [zcc] at hs))) | (apply aT) | ((apply aM); (first | (apply aW; first | exact aU hs rfl rfl aA | exact aI hs rfl aA) | (apply eA; exact eS (kl := .i64) (kh := .i64) (km := .i64) (a' := some ⟨b, o, none⟩) (l := 0) (h := (m : Int)) (m := (m : Int)) rfl (.inl ⟨rfl, rfl⟩) (.inr ⟨_, rfl, rfl⟩) (.inr ⟨_, rfl, rfl⟩) (by omega) (by omega) (by omega) (by omega) (by split; rfl; exact addr0 _) (by rw [Int.sub_zero, Int.toNat_natCast]; exact aA)) | (apply aR; exact aH rfl aA) | (apply aC; exact aB rfl aA) | (apply aQ; exact aK rfl rfl aA) | (apply bX; exact bY rfl aA)); first | (exact rfl; exact rfl) | exact rfl) | (apply bD) | (apply aG) | (apply cF; refine cU rfl ?_) | (apply bK; refine JL_u (by apply bE; exact aX hs rfl rfl rfl) rfl ?_; rintro _ _ ⟨hs, hF⟩) | (apply aS; refine bW rfl gb ?_))
      have hs := St.cutN m (hs.sel [0, 1, 2, 3, 4] (by decide))
      have hs := St.cutRow (L := [_, _, _, _]) (hs.sel [1, 0, 2, 3, 4] (by decide)) m m hmi (Nat.le_refl _) hmi
      have hct : (encL cNd (qi.map rawN)).take (m * 4) = encL cNd ((qi.take m).map rawN) := by rw [List.map_take]; exact (iV (d := dRNd) (qi.map rawN) m).symm
      rw [hct] at hs
      have hdl : (jN N p).length = m := by rw [hdN, hlu, hlm, List.length_take]; omega
      refine aY Tryz.func38 rfl (.agg' hs rfl rfl (.tmp rfl .nil)) (.inr ⟨rfl, some ⟨b, o, none⟩, m, m, a2', n2, n2, rfl, hmi, qi.take m, E.set i0 gone, rs', ⟨by rw [List.map_take, hqmi, hdN, hlu, hlm], fun u hu => hqoi u (List.mem_of_mem_take hu)⟩, ⟨nV hcE he0 he01, uD hc hxp hxu he0 he01 he0t⟩, ⟨hdl, (gone_len i0).trans hl2, hn2⟩, hs.out (.cons_cons _ (.cons_cons _ (.cons_cons _ (.cons_cons _ (List.nil_sublist _)))))⟩)
end Go.Eng
end
section
namespace Go.Eng
open Go.Proofs
set_option linter.unusedSimpArgs false
set_option linter.unusedVariables false
abbrev zG : Value := .agg #[.slice none 0 0, .slice none 0 0]
def GRes (w : World) (e : Int) (n : Int) (N' : List NM) (mx : Nat) (v : Value) (w' : World) : Prop :=
  (e ≠ 0 ∧ v = .tuple #[zG, .int .i64 0, .int .i64 e] ∧ Ext w w') ∨
  (e = 0 ∧ ∃ a' m' c' a2' m2 c2', v = .tuple #[.agg #[.slice a' m' c', .slice a2' m2 c2'], .int .i64 n, .int .i64 0] ∧ m' ≤ mx ∧ GOut w w' N' a' m' c' a2' m2 c2')
theorem GRes.bad {w w' : World} {e n : Int} {N' : List NM} {mx : Nat} {v : Value} (h : GRes w e n N' mx v w') (he : e ≠ 0) : v = .tuple #[zG, .int .i64 0, .int .i64 e] ∧ Ext w w' := by
  rcases h with ⟨_, r⟩ | ⟨h2, _⟩
  · exact r
  · exact absurd h2 he
theorem GRes.ok {w w' : World} {e n : Int} {N' : List NM} {mx : Nat} {v : Value} (h : GRes w e n N' mx v w') (he : e = 0) : ∃ a' m' c' a2' m2 c2', v = .tuple #[.agg #[.slice a' m' c', .slice a2' m2 c2'], .int .i64 n, .int .i64 0] ∧ m' ≤ mx ∧ GOut w w' N' a' m' c' a2' m2 c2' := by
  rcases h with ⟨h2, _⟩ | ⟨_, r⟩
  · exact absurd he h2
  · exact r
abbrev N00 : List NM := [newN []]
theorem gr_new : GR N00 := nodes_iff.1 (by decide)
theorem put_new {es : List Ent} (hc : dJ es = true) (hp : (es.filter eH).Perm (allM (newE 8) ++ [(1, [], 1)])) : allM es = eX N00 := by
  refine aBp hc gr_new.uniq fun e => ?_
  rw [hp.mem_iff, aBo, List.nil_append, ents_mem, List.mem_singleton]
  constructor
  · rintro rfl; exact ⟨0, newN [], rfl, rfl, rfl⟩
  · rintro ⟨j, x, hx, hu, rfl⟩
    cases j with
    | zero => cases hx; rfl
    | succ j => cases hx
theorem putE_new : putE (newE 8) [] 1 = 0 := zZ aBl tw0 (by omega) (fun y hy => by rw [show (newE 8).filter eH = [] by decide] at hy; cases hy) (by rw [aBo]; decide)
attribute [local irreducible] Hold J JL JD JX JXat OpR OpG Ret RetV Is Blk Row
set_option maxRecDepth 100000
set_option maxHeartbeats 1000000
theorem aAy (w : World) : Ret Tryz.prog 54 #[] w fun v w' => ∃ a' c' a2' m2 c2', v = .agg #[.slice a' 1 c', .slice a2' m2 c2'] ∧ GOut w w' N00 a' 1 c' a2' m2 c2' := by
  refine cE (l := []) Tryz.func54 rfl Tryz.ntmps54 (by simp) ?_
  have hs := St.init w
  have h1i : inK .i64 (1 : Int) := by unfold inK; simp only [IntKind.min, IntKind.max, IntKind.bits, IntKind.signed]; omega
  repeat' (first | ((apply bC 133; refine JL_o (by exact aF en133 rfl (new_r _)) rfl rfl ?_; rintro _ _ ⟨a1, rfl, hf⟩; have hs := hs.fresh hf; (try simp only [zcc] at hs))) | ((apply bC 132; refine JL_o (by exact aF en132 rfl (zX _ a1 8 8 (newE 8) none 0 0 [] 1 (jL hs zmm zmm) (by omega) (wO _ _ _) h1i putE_new)) rfl rfl ?_; rintro _ _ ⟨es1, rs1, a4, ⟨hce1, hpe1, hle1⟩, rfl, hf⟩; have hs := hs.fresh hf; (try simp only [zcc] at hs))) | (apply aT) | ((apply aM); (first | (apply aW; first | exact aU hs rfl rfl aA | exact aI hs rfl aA) | (apply aR; exact aH rfl aA) | (apply aC; exact aB rfl aA) | (apply cK; exact cA rfl rfl aA) | (apply dD; exact cY rfl (by (simp only [bld, dA, cB, Value.cells, List.take_succ_cons, List.take_zero, List.drop_succ_cons, List.drop_zero, List.cons_append, List.nil_append, List.length_cons, List.length_nil, List.getElem?_cons_zero, List.getElem?_cons_succ, Option.map_some, List.append_nil, Nat.reduceAdd, Nat.reduceMul, Nat.zero_add, Nat.reduceLeDiff, and_self, if_true, List.toList_toArray, Nat.le_refl, Nat.zero_mul, Nat.one_mul]; first | done | rfl)) aA)); first | (exact rfl; exact rfl) | exact rfl) | (apply bD) | (apply aG) | (apply aP (t := 0); refine JL_o (by apply bB; exact aV hs) rfl rfl ?_; rintro _ _ ⟨b0, rfl, hb0, hs, hE⟩) | (apply aP (t := 1); refine JL_o (by apply bB; exact aV hs) rfl rfl ?_; rintro _ _ ⟨b1, rfl, hb1, hs, hE⟩) | (apply aP (t := 9); refine JL_o (by apply cQ; exact cM hs rfl (by omega) rfl) rfl rfl ?_; rintro _ _ ⟨b9, rfl, hb9, hs, hE⟩) | (apply bK; refine JL_u (by apply bE; exact aX hs rfl rfl rfl) rfl ?_; rintro _ _ ⟨hs, hF⟩))
  have hs := St.toRow (L := [_, _, _]) (hs.sel [0, 2, 3, 6] (by decide)) 0 1 1 4 (xs := encL cNd [rNew z0]) (Nat.le_refl _) (by unfold maxLen; omega) (by decide) rfl
  have hs := St.pushN (hs.nilN.zeroN true)
  refine aY Tryz.func54 rfl (.agg' hs rfl rfl .nil) ⟨_, 1, a4, es1.length, es1.length, rfl, [(true, (z0, []), (z0, []), (z0, []))], es1, rs1, ⟨rfl, fun q hq => by rw [List.mem_singleton.1 hq]; exact wM true⟩, ⟨hce1, put_new hce1 hpe1⟩, ⟨rfl, rfl, hle1⟩, (hs.sel [1, 0, 2, 3] (by decide)).out (List.Sublist.refl _)⟩
theorem aAu (w : World) (a a2 : Option Addr) (n c n2 c2 : Nat) (N : List NM) (E : List Ent) (X0 id : Int) (h : Sl fR All w a n c N) (hE0 : Sl dEnt All w a2 n2 c2 E) (hn : n ≤ 900000) (hn2 : n2 ≤ 1048576) (hz : szN N) (hx0 : inK .i64 X0) (hid : okId id) :
    Ret Tryz.prog 35 #[.agg #[.slice a n c, .slice a2 n2 c2], .int .i64 X0, .int .u64 id] w (GRes w (goE N E X0 id true) (gon N X0 id true) (goL N X0 id true) (n + 1)) := by
  refine cE (l := [_, _, _]) Tryz.func35 rfl Tryz.ntmps35 (by simp) ?_
  have hs := St.init w
  by_cases he : goE N E X0 id true = 0
  · repeat' (first | ((apply bC 100; refine JL_o (by exact aF en100 rfl ((aAv _ a a2 n c n2 c2 N E X0 id (h.st hs) (hE0.st hs) hn hn2 hz hx0 hid).mono (fun _ _ r => GRes.ok (mx := n + 1) r he))) rfl rfl ?_; rintro _ _ ⟨a', m', c', a2', m2, c2', rfl, hm', qs, es, rs', hq, hce, hnl, hf⟩; have hs := hs.fresh hf; (try simp only [zcc] at hs))) | (apply aT) | ((apply aM); (first | (apply aW; first | exact aU hs rfl rfl aA | exact aI hs rfl aA) | (apply aR; exact aH rfl aA) | (apply aC; exact aB rfl aA) | (apply cK; exact cA rfl rfl aA)); first | (exact rfl; exact rfl) | exact rfl) | (apply bD) | (apply aG) | (apply aP (t := 3); refine JL_o (by apply cI; exact bS hs rfl) rfl rfl ?_; rintro _ _ ⟨b3, rfl, hb3, hs, hE⟩) | (apply aP (t := 6); refine JL_o (by apply bB; exact aV hs) rfl rfl ?_; rintro _ _ ⟨b6, rfl, hb6, hs, hE⟩) | (apply bK; refine JL_u (by apply bE; exact aX hs rfl rfl rfl) rfl ?_; rintro _ _ ⟨hs, hF⟩))
    refine aY Tryz.func35 rfl (.agg' hs rfl rfl (.tmp rfl (.tmp rfl .nil))) (.inr ⟨he, a', m', c', a2', m2, c2', rfl, hm', qs, es, rs', hq, hce, hnl, hs.out (.cons_cons _ (.cons_cons _ (.cons_cons _ (.cons_cons _ (List.nil_sublist _)))))⟩)
  · repeat' (first | ((apply bC 100; refine JL_o (by exact aF en100 rfl ((aAv _ a a2 n c n2 c2 N E X0 id (h.st hs) (hE0.st hs) hn hn2 hz hx0 hid).mono (fun _ _ r => GRes.bad (mx := n + 1) r he))) rfl rfl ?_; rintro _ _ ⟨rfl, hE⟩; have hs := hs.ext hE; (try simp only [zcc] at hs))) | (apply aT) | ((apply aM); (first | (apply aW; first | exact aU hs rfl rfl aA | exact aI hs rfl aA) | (apply aR; exact aH rfl aA) | (apply aC; exact aB rfl aA) | (apply cK; exact cA rfl rfl aA)); first | (exact rfl; exact rfl) | exact rfl) | (apply bD) | (apply aG) | (apply aP (t := 3); refine JL_o (by apply cI; exact bS hs rfl) rfl rfl ?_; rintro _ _ ⟨b3, rfl, hb3, hs, hE⟩) | (apply aP (t := 6); refine JL_o (by apply bB; exact aV hs) rfl rfl ?_; rintro _ _ ⟨b6, rfl, hb6, hs, hE⟩) | (apply bK; refine JL_u (by apply bE; exact aX hs rfl rfl rfl) rfl ?_; rintro _ _ ⟨hs, hF⟩))
    refine aY Tryz.func35 rfl (.agg' hs rfl rfl (.tmp rfl (.tmp rfl .nil))) (.inl ⟨he, rfl, hs.frm.ext⟩)
theorem gless_r (w : World) (a a2 : Option Addr) (n c n2 c2 : Nat) (N : List NM) (E : List Ent) (X0 id : Int) (h : Sl fR All w a n c N) (hE0 : Sl dEnt All w a2 n2 c2 E) (hn : n ≤ 900000) (hn2 : n2 ≤ 1048576) (hz : szN N) (hx0 : inK .i64 X0) (hid : okId id) :
    Ret Tryz.prog 36 #[.agg #[.slice a n c, .slice a2 n2 c2], .int .i64 X0, .int .u64 id] w (GRes w (goE N E X0 id false) (gon N X0 id false) (goL N X0 id false) (n + 1)) := by
  refine cE (l := [_, _, _]) Tryz.func36 rfl Tryz.ntmps36 (by simp) ?_
  have hs := St.init w
  by_cases he : goE N E X0 id false = 0
  · repeat' (first | ((apply bC 100; refine JL_o (by exact aF en100 rfl ((aAw _ a a2 n c n2 c2 N E X0 id (h.st hs) (hE0.st hs) hn hn2 hz hx0 hid).mono (fun _ _ r => GRes.ok (mx := n + 1) r he))) rfl rfl ?_; rintro _ _ ⟨a', m', c', a2', m2, c2', rfl, hm', qs, es, rs', hq, hce, hnl, hf⟩; have hs := hs.fresh hf; (try simp only [zcc] at hs))) | (apply aT) | ((apply aM); (first | (apply aW; first | exact aU hs rfl rfl aA | exact aI hs rfl aA) | (apply aR; exact aH rfl aA) | (apply aC; exact aB rfl aA) | (apply cK; exact cA rfl rfl aA)); first | (exact rfl; exact rfl) | exact rfl) | (apply bD) | (apply aG) | (apply aP (t := 3); refine JL_o (by apply cI; exact bS hs rfl) rfl rfl ?_; rintro _ _ ⟨b3, rfl, hb3, hs, hE⟩) | (apply aP (t := 6); refine JL_o (by apply bB; exact aV hs) rfl rfl ?_; rintro _ _ ⟨b6, rfl, hb6, hs, hE⟩) | (apply bK; refine JL_u (by apply bE; exact aX hs rfl rfl rfl) rfl ?_; rintro _ _ ⟨hs, hF⟩))
    refine aY Tryz.func36 rfl (.agg' hs rfl rfl (.tmp rfl (.tmp rfl .nil))) (.inr ⟨he, a', m', c', a2', m2, c2', rfl, hm', qs, es, rs', hq, hce, hnl, hs.out (.cons_cons _ (.cons_cons _ (.cons_cons _ (.cons_cons _ (List.nil_sublist _)))))⟩)
  · repeat' (first | ((apply bC 100; refine JL_o (by exact aF en100 rfl ((aAw _ a a2 n c n2 c2 N E X0 id (h.st hs) (hE0.st hs) hn hn2 hz hx0 hid).mono (fun _ _ r => GRes.bad (mx := n + 1) r he))) rfl rfl ?_; rintro _ _ ⟨rfl, hE⟩; have hs := hs.ext hE; (try simp only [zcc] at hs))) | (apply aT) | ((apply aM); (first | (apply aW; first | exact aU hs rfl rfl aA | exact aI hs rfl aA) | (apply aR; exact aH rfl aA) | (apply aC; exact aB rfl aA) | (apply cK; exact cA rfl rfl aA)); first | (exact rfl; exact rfl) | exact rfl) | (apply bD) | (apply aG) | (apply aP (t := 3); refine JL_o (by apply cI; exact bS hs rfl) rfl rfl ?_; rintro _ _ ⟨b3, rfl, hb3, hs, hE⟩) | (apply aP (t := 6); refine JL_o (by apply bB; exact aV hs) rfl rfl ?_; rintro _ _ ⟨b6, rfl, hb6, hs, hE⟩) | (apply bK; refine JL_u (by apply bE; exact aX hs rfl rfl rfl) rfl ?_; rintro _ _ ⟨hs, hF⟩))
    refine aY Tryz.func36 rfl (.agg' hs rfl rfl (.tmp rfl (.tmp rfl .nil))) (.inl ⟨he, rfl, hs.frm.ext⟩)
end Go.Eng
end
section
namespace Go.Eng
open Go.Proofs
set_option linter.unusedSimpArgs false
set_option linter.unusedVariables false
abbrev cC : Int := 4611686018427387907
abbrev cP : Int := 9223372054034644997
abbrev W1 : List NM := [(true, [], [(cC, 2)], []), (true, [cC], [], [(cC, 1)])]
abbrev W2 : List NM := [(true, [], [(cC, 2)], []), (true, [cC], [(cP, 3)], [(cC, 1)]), (true, [cC, cP], [], [(cP, 2)])]
set_option maxRecDepth 100000
theorem wk1 : goC N00 1 cC true = 0 ∧ gon N00 1 cC true = 2 ∧ goL N00 1 cC true = W1 := ⟨by kernel_rfl, by kernel_rfl, by kernel_rfl⟩
theorem wk2 : goC W1 2 cP true = 0 ∧ gon W1 2 cP true = 3 ∧ goL W1 2 cP true = W2 := ⟨by kernel_rfl, by kernel_rfl, by kernel_rfl⟩
theorem wk3 : goC W2 3 cC false = 0 ∧ gon W2 3 cC false = 4 := ⟨by kernel_rfl, by kernel_rfl⟩
theorem wk4 : drC W2 2 = 0 ∧ oH (drL W2 2) = [1, 3] ∧ oH W2 = [1, 2, 3] := ⟨by kernel_rfl, by kernel_rfl, by kernel_rfl⟩
theorem goE_of {N : List NM} {E : List Ent} {n id : Int} {plus : Bool} (g : GR N) (hc : dJ E = true) (hA : allM E = eX N) : goE N E n id plus = goC N n id plus := by unfold goE; rw [check_iff.2 ⟨g, hc, hA⟩]; rfl
theorem drE_of {N : List NM} {E : List Ent} {n : Int} (g : GR N) (hc : dJ E = true) (hA : allM E = eX N) : drE N E n = drC N n := by unfold drE; rw [check_iff.2 ⟨g, hc, hA⟩]; rfl
theorem wB {N : List NM} {E : List Ent} (g : GR N) (hc : dJ E = true) (hA : allM E = eX N) : nI N E = oH N := by unfold nI; rw [check_iff.2 ⟨g, hc, hA⟩]; rfl
theorem dr_GR {N : List NM} {n : Int} (g : GR N) (h : drC N n = 0) : GR (drL N n) := by
  unfold drC at h
  cases hi : isM N n with
  | false => rw [hi, Bool.false_and] at h; exact absurd h (by decide)
  | true =>
    obtain ⟨p, x, rfl, hx, hu⟩ := isM_true.1 hi
    by_cases h1 : (p : Int) + 1 = 1
    · rw [hi, decide_eq_true h1] at h; exact absurd h (by decide)
    · have e : drL N ((p : Int) + 1) = jN N p := by
        unfold drL drC
        rw [hi, decide_eq_false h1, show ((p : Int) + 1 - 1).toNat = p by omega]; rfl
      rw [e]
      exact drop_GR g hx hu (fun e => h1 (by rw [e]; rfl))
theorem slG {w0 w : World} {F : Nat → Prop} {L : List HP} {a : Option Addr} {n c : Nat} {qs : List QN} {N : List NM} (hs : St w0 F w L) (hq : qs.map iE = N) (hqo : ∀ q ∈ qs, okN q) (h1 : TabN a n c (qs.map rawN) ∈ L) (h2 : OwnN qs ∈ L) : Sl fR All w a n c N := Sl.to hq (slN hs h1 h2 hqo)
theorem GRes.goes {w w' : World} {N : List NM} {E : List Ent} {n id : Int} {plus : Bool} {k : Int} {N' : List NM} {mx : Nat} {v : Value} (r : GRes w (goE N E n id plus) (gon N n id plus) (goL N n id plus) mx v w') (g : GR N) (hc : dJ E = true) (hA : allM E = eX N) (h1 : goC N n id plus = 0) (h2 : gon N n id plus = k) (h3 : goL N n id plus = N') :
    ∃ a' m' c' a2' m2 c2', v = .tuple #[.agg #[.slice a' m' c', .slice a2' m2 c2'], .int .i64 k, .int .i64 0] ∧ m' ≤ mx ∧ GOut w w' N' a' m' c' a2' m2 c2' := by
  rw [goE_of g hc hA, h2, h3] at r
  exact r.ok h1
attribute [local irreducible] Hold J JL JD JX JXat OpR OpG Ret RetV Is Blk Row
set_option maxHeartbeats 2000000
theorem comp3_r (w : World) : Ret Tryz.prog 91 #[.int .i64 3] w fun v w' => v = .tuple #[.int .u64 cC, .int .i64 0] ∧ Ext w w' := by
  refine cE (l := [_]) Tryz.func91 rfl Tryz.ntmps91 (by simp) ?_
  have hs := St.init w
  have h3 : inK .i64 (3 : Int) := by unfold inK; simp only [IntKind.min, IntKind.max, IntKind.bits, IntKind.signed]; omega
  have hin : [(3 : Int)].all (inB 1 24) = true := by decide
  repeat' (first | ((apply aP (t := 5); refine JL_o (by apply cQ; exact cM hs rfl (by omega) rfl) rfl rfl ?_; rintro _ _ ⟨b5, rfl, hb5, hs, hE⟩; have hs := hs.toRow 0 1 1 1 (xs := [3].map (.int .i64)) (Nat.le_refl _) (by unfold maxLen; omega) (by decide) rfl)) | ((apply bC 165; refine JL_o (by exact aF vQ rfl (kA _ 1 24 (some ⟨b5, 0, none⟩) 1 1 [3] ((RowV.sl (hs.row (some ⟨b5, 0, none⟩) 1 1) (fun v hv => by rw [List.mem_singleton.1 hv]; exact h3)).weak (fun _ _ => trivial)))) rfl rfl ?_; rintro _ _ ⟨rfl, hE⟩; rw [hin]; have hs := hs.ext hE; (try simp only [zcc] at hs))) | ((apply bC 166; refine JL_o (by exact aF yN rfl (lY _ 4611686018427387904 0 3 (.inr (.inl rfl)) (by omega) (by omega))) rfl rfl ?_; rintro _ _ ⟨rfl, hE⟩; have hs := hs.ext hE; (try simp only [zcc] at hs))) | (apply aT) | ((apply aM); (first | (apply aR; exact aH rfl aA) | (apply aC; exact aB rfl aA) | (apply bX; exact bY rfl aA)); first | (exact rfl; exact rfl) | exact rfl) | (apply bD) | (apply aG) | (apply bH) | (apply aS; refine bW rfl gb ?_))
  refine aY Tryz.func91 rfl (.tmp rfl (.tmp rfl .nil)) ⟨rfl, hs.frm.ext⟩
theorem pair45_r (w : World) : Ret Tryz.prog 92 #[.int .i64 4, .int .i64 5] w fun v w' => v = .tuple #[.int .u64 cP, .int .i64 0] ∧ Ext w w' := by
  refine cE (l := [_, _]) Tryz.func92 rfl Tryz.ntmps92 (by simp) ?_
  have hs := St.init w
  have h45 : ∀ v ∈ [(4 : Int), 5], inK .i64 v := fun v hv => by
    simp only [List.mem_cons, List.not_mem_nil, or_false] at hv
    unfold inK; simp only [IntKind.min, IntKind.max, IntKind.bits, IntKind.signed]; omega
  have hin : [(4 : Int), 5].all (inB 0 1048578) = true := by decide
  repeat' (first | ((apply aP (t := 8); refine JL_o (by apply cQ; exact cM hs rfl (by omega) rfl) rfl rfl ?_; rintro _ _ ⟨b5, rfl, hb5, hs, hE⟩; have hs := hs.toRow 0 2 2 1 (xs := [4, 5].map (.int .i64)) (Nat.le_refl _) (by unfold maxLen; omega) (by decide) rfl)) | ((apply bC 165; refine JL_o (by exact aF vQ rfl (kA _ 0 1048578 (some ⟨b5, 0, none⟩) 2 2 [4, 5] ((RowV.sl (hs.row (some ⟨b5, 0, none⟩) 2 2) h45).weak (fun _ _ => trivial)))) rfl rfl ?_; rintro _ _ ⟨rfl, hE⟩; rw [hin]; have hs := hs.ext hE; (try simp only [zcc] at hs))) | ((apply bC 166; refine JL_o (by exact aF yN rfl (lY _ 9223372036854775808 4 5 (.inr (.inr rfl)) (by omega) (by omega))) rfl rfl ?_; rintro _ _ ⟨rfl, hE⟩; have hs := hs.ext hE; (try simp only [zcc] at hs))) | (apply aT) | ((apply aM); (first | (apply aR; exact aH rfl aA) | (apply aC; exact aB rfl aA) | (apply bX; exact bY rfl aA)); first | (exact rfl; exact rfl) | exact rfl) | (apply bD) | (apply aG) | (apply bH) | (apply aS; refine bW rfl gb ?_))
  refine aY Tryz.func92 rfl (.tmp rfl (.tmp rfl .nil)) ⟨rfl, hs.frm.ext⟩
theorem oT (w : World) (a1 a2 : Option Addr) (n1 c1 n2 c2 : Nat) (xs ys : List Int) (h1 : Sl (tInt .i64) All w a1 n1 c1 xs) (h2 : Sl (tInt .i64) All w a2 n2 c2 ys) :
    Ret Tryz.prog 48 #[.slice a1 n1 c1, .slice a2 n2 c2] w fun v w' => v = .bool (decide (xs = ys)) ∧ Ext w w' := by
  refine cE (l := [_, _]) Tryz.func48 rfl Tryz.ntmps48 (by simp) ?_
  have hs := St.init w
  have hl1 := h1.len
  have hl2 := h2.len
  have hmx : n1 ≤ 9223372036854775807 := by have h3 := h1.le; have h4 := h1.cap; unfold maxLen at h4; omega
  by_cases hn : n1 = n2
  · subst hn
    repeat' (first | (apply aT) | ((apply aM); (first | (apply aR; exact aH rfl aA) | (apply aC; exact aB rfl aA) | (apply aL; exact aO rfl rfl rfl aA) | (apply bM; exact bU rfl aA)); first | (exact rfl; exact rfl) | exact rfl) | (apply bD) | (apply aG) | (apply bA) | (apply bH) | (apply aS; refine bQ rfl ob ?_))
    refine cZ (α := Nat) [(0, _), (1, _), (12, _)] (fun k => [(13, .int .i64 k)]) (fun k w' => St w NoF w' [] ∧ k ≤ n1 ∧ xs.take k = ys.take k) (fun k => n1 - k) 0 ⟨hs, Nat.zero_le _, rfl⟩ zss ?_
    rintro k w2 ⟨hs1, hk, heq⟩ ih
    have hs : St w NoF w2 [] := hs1
    by_cases hlt : k < n1
    · obtain ⟨p, o, rfl⟩ := h1.sl.addr (by omega)
      obtain ⟨p2, o2, rfl⟩ := h2.sl.addr (by omega)
      have hs : St w NoF w2 [] := hs1
      have hx : xs[k]? = some (xs[k]'(by omega)) := List.getElem?_eq_getElem (by omega)
      have hy : ys[k]? = some (ys[k]'(by omega)) := List.getElem?_eq_getElem (by omega)
      obtain ⟨x, hxd⟩ : ∃ x, x = xs[k]'(by omega) := ⟨_, rfl⟩
      obtain ⟨y, hyd⟩ : ∃ y, y = ys[k]'(by omega) := ⟨_, rfl⟩
      rw [← hxd] at hx
      rw [← hyd] at hy
      by_cases hc : x = y
      · have hc2 : x = y := hc
        repeat' (first | (apply aT) | ((first | (apply aM) | (apply JX_f; exact rfl; intro W X hs)); (first | (apply aW; first | exact bJ (b := p) (o := o) (i := k) (j := 0) (h1.st hs) hx rfl rfl rfl aA | exact bJ (b := p2) (o := o2) (i := k) (j := 0) (h2.st hs) hy rfl rfl rfl aA) | (apply aR; exact aH rfl aA) | (apply aC; exact aB rfl aA) | (apply cJ; exact bT rfl rfl (by omega) (by first | (simp only [Int.reduceAdd]; exact rfl) | exact rfl) aA) | (apply aL; exact aO rfl rfl rfl aA) | (apply aN; exact aJ rfl rfl (by omega) (by omega) aA)); first | (exact rfl; exact rfl) | exact rfl) | (apply bD) | (apply aG) | (apply bA) | (apply bP) | (apply bH) | (apply aS; first | refine bF rfl ob ?_ | refine bQ rfl ob ?_) | (apply cW; (refine cR (id := 6) [0, 0, 3, 7, 0, 0, 48, 112, 255] [(0, 0), (1, 0), (2, 0), (3, 0), (4, 0), (5, 0), (6, 0), (7, 0), (8, 0)] [] hs dP (by kernel_rfl) (by kernel_rfl) (by kernel_rfl) (by kernel_rfl) (by kernel_rfl) ?_)) | (refine cV (fun W hs => ?_)) | (apply dC))
        refine ih (k + 1) _ _ ⟨hs, hlt, fS hx (by rw [hc]; exact hy) heq⟩ (by omega) zss
      · have hc2 : ¬ x = y := hc
        repeat' (first | (apply aT) | ((first | (apply aM) | (apply JX_f; exact rfl; intro W X hs)); (first | (apply aW; first | exact bJ (b := p) (o := o) (i := k) (j := 0) (h1.st hs) hx rfl rfl rfl aA | exact bJ (b := p2) (o := o2) (i := k) (j := 0) (h2.st hs) hy rfl rfl rfl aA) | (apply aR; exact aH rfl aA) | (apply aC; exact aB rfl aA) | (apply aL; exact aO rfl rfl rfl aA) | (apply aN; exact aJ rfl rfl (by omega) (by omega) aA)); first | (exact rfl; exact rfl) | exact rfl) | (apply bD) | (apply aG) | (apply bA) | (apply bH) | (apply aS; refine bF rfl ob ?_) | (apply cW; (refine cR (id := 6) [0, 0, 3, 7, 0, 0, 48, 112, 255] [(0, 0), (1, 0), (2, 0), (3, 0), (4, 0), (5, 0), (6, 0), (7, 0), (8, 0)] [] hs dP (by kernel_rfl) (by kernel_rfl) (by kernel_rfl) (by kernel_rfl) (by kernel_rfl) ?_)) | (refine cV (fun W hs => ?_)) | (apply dC))
        refine aY Tryz.func48 rfl (.tmp rfl .nil) ⟨congrArg Value.bool (decide_eq_false fun e => hc (by subst e; rw [hx] at hy; exact Option.some.inj hy)).symm, hs.frm.ext⟩
    · rw [List.take_of_length_le (by omega), List.take_of_length_le (by omega)] at heq
      repeat' (first | (apply aT) | ((apply aM); (first | (apply aC; exact aB rfl aA) | (apply aL; exact aO rfl rfl rfl aA)); first | (exact rfl; exact rfl) | exact rfl) | (apply bD) | (apply aG) | (apply cF; refine cU rfl ?_) | (apply aS; refine bQ rfl ob ?_))
      refine aY Tryz.func48 rfl (.tmp rfl .nil) ⟨congrArg Value.bool (decide_eq_true heq).symm, hs.frm.ext⟩
  · repeat' (first | (apply aT) | ((apply aM); (first | (apply aR; exact aH rfl aA) | (apply aC; exact aB rfl aA) | (apply aL; exact aO rfl rfl rfl aA) | (apply bM; exact bU rfl aA)); first | (exact rfl; exact rfl) | exact rfl) | (apply bD) | (apply aG) | (apply aS; refine bF rfl ob ?_))
    refine aY Tryz.func48 rfl (.tmp rfl .nil) ⟨congrArg Value.bool (decide_eq_false fun e => hn (by rw [← hl1, ← hl2, e])).symm, hs.frm.ext⟩
theorem aAz (w : World) : Ret Tryz.prog 30 #[] w fun v w' => v = .bool true ∧ Ext w w' := by
  refine cE (l := []) Tryz.func30 rfl Tryz.ntmps30 (by simp) ?_
  have hs := St.init w
  obtain ⟨a1, a2, a3⟩ := wk1
  obtain ⟨b1, b2, b3⟩ := wk2
  obtain ⟨c1, c2⟩ := wk3
  obtain ⟨d1, d2, d3⟩ := wk4
  have g0 := gr_new
  have g1 : GR W1 := by have := go_GR g0 a1; rw [a3] at this; exact this
  have g2 : GR W2 := by have := go_GR g1 b1; rw [b3] at this; exact this
  have z0 : szN N00 := by decide
  have z1 : szN W1 := by decide
  have z2 : szN W2 := by decide
  have i1 : inK .i64 (1 : Int) := by unfold inK; simp only [IntKind.min, IntKind.max, IntKind.bits, IntKind.signed]; omega
  have i2 : inK .i64 (2 : Int) := by unfold inK; simp only [IntKind.min, IntKind.max, IntKind.bits, IntKind.signed]; omega
  have i3 : inK .i64 (3 : Int) := by unfold inK; simp only [IntKind.min, IntKind.max, IntKind.bits, IntKind.signed]; omega
  have iC : okId cC := by show inK .u64 (4611686018427387907 : Int); unfold inK; simp only [IntKind.min, IntKind.max, IntKind.bits, IntKind.signed]; omega
  have iP : okId cP := by show inK .u64 (9223372054034644997 : Int); unfold inK; simp only [IntKind.min, IntKind.max, IntKind.bits, IntKind.signed]; omega
  have g4 : GR (drL W2 2) := dr_GR g2 d1
  have z4 : szN (drL W2 2) := by decide
  have h13 : ∀ v ∈ [(1 : Int), 3], inK .i64 v := fun v hv => by
    simp only [List.mem_cons, List.not_mem_nil, or_false] at hv
    unfold inK; simp only [IntKind.min, IntKind.max, IntKind.bits, IntKind.signed]; omega
  have h123 : ∀ v ∈ [(1 : Int), 2, 3], inK .i64 v := fun v hv => by
    simp only [List.mem_cons, List.not_mem_nil, or_false] at hv
    unfold inK; simp only [IntKind.min, IntKind.max, IntKind.bits, IntKind.signed]; omega
  repeat' (first | ((apply bC 91; refine JL_o (by exact aF en91 rfl (comp3_r _)) rfl rfl ?_; rintro _ _ ⟨rfl, hE⟩; have hs := hs.ext hE; (try simp only [zcc] at hs))) | ((apply bC 92; refine JL_o (by exact aF en92 rfl (pair45_r _)) rfl rfl ?_; rintro _ _ ⟨rfl, hE⟩; have hs := hs.ext hE; (try simp only [zcc] at hs))) | ((apply bC 54; refine JL_o (by exact aF en54 rfl (aAy _)) rfl rfl ?_; rintro _ _ ⟨t1, u1, t2, m2, u2, rfl, qs0, es0, rs0, ⟨hq0, ho0⟩, ⟨he0, hA0⟩, ⟨hl0, hm0, hx0⟩, hf⟩; have hs := hs.fresh hf; (try simp only [zcc] at hs))) | ((apply bC 35; refine JL_o (by exact aF en35 rfl ((aAu _ t1 t2 1 u1 m2 u2 N00 es0 1 cC (slG hs hq0 ho0 zmm zmm) (jL hs zmm zmm) (by omega) hx0 z0 i1 iC).mono (fun _ _ r => r.goes g0 he0 hA0 a1 a2 a3))) rfl rfl ?_; rintro _ _ ⟨t3, k3, u3, t4, m4, u4, rfl, hk3, qs1, es1, rs1, ⟨hq1, ho1⟩, ⟨he1, hA1⟩, ⟨hl1, hm1, hx1⟩, hf⟩; have hs := hs.fresh hf; (try simp only [zcc] at hs))) | ((apply bC 35; refine JL_o (by exact aF en35 rfl ((aAu _ t3 t4 k3 u3 m4 u4 W1 es1 2 cP (slG hs hq1 ho1 zmm zmm) (jL hs zmm zmm) (by omega) hx1 z1 i2 iP).mono (fun _ _ r => r.goes g1 he1 hA1 b1 b2 b3))) rfl rfl ?_; rintro _ _ ⟨t5, k5, u5, t6, m6, u6, rfl, hk5, qs2, es2, rs2, ⟨hq2, ho2⟩, ⟨he2, hA2⟩, ⟨hl2, hm2, hx2⟩, hf⟩; have hs := hs.fresh hf; (try simp only [zcc] at hs))) | ((apply bC 36; refine JL_o (by exact aF en36 rfl ((gless_r _ t5 t6 k5 u5 m6 u6 W2 es2 3 cC (slG hs hq2 ho2 zmm zmm) (jL hs zmm zmm) (by omega) hx2 z2 i3 iC).mono (fun _ _ r => r.goes g2 he2 hA2 c1 c2 rfl))) rfl rfl ?_; rintro _ _ ⟨t7, k7, u7, t8, m8, u8, rfl, hk7, qs3, es3, rs3, ⟨hq3, ho3⟩, ⟨he3, hA3⟩, ⟨hl3, hm3, hx3⟩, hf⟩; have hs := hs.fresh hf; (try simp only [zcc] at hs))) | ((apply bC 38; refine JL_o (by exact aF en38 rfl (((gdrop_r _ t5 t6 k5 u5 m6 u6 W2 es2 2 (slG hs hq2 ho2 zmm zmm) (jL hs zmm zmm) (by omega) hx2 z2 i2).mono (fun _ _ r => r.resolve_left (fun e => e.1 (by rw [drE_of g2 he2 hA2]; exact d1)))))) rfl rfl ?_; rintro _ _ ⟨_, t9, k9, u9, t10, m10, u10, rfl, hk9, qs4, es4, rs4, ⟨hq4, ho4⟩, ⟨he4, hA4⟩, ⟨hl4, hm4, hx4⟩, hf⟩; have hs := hs.fresh hf; (try simp only [zcc] at hs))) | ((apply bZ 49; refine cH rfl gb (by exact aF en49 rfl ((sD _ t9 t10 k9 u9 m10 u10 (drL W2 2) es4 (slG hs hq4 ho4 zmm zmm) (jL hs zmm zmm) (by omega) hx4 z4).mono (fun _ _ r => by rw [wB g4 he4 hA4, d2] at r; exact r))) rfl rfl ?_; rintro _ _ ⟨t11, u11, rfl, hf⟩; have hs := hs.fresh hf; (try simp only [zcc] at hs))) | ((refine cH (t := 81) rfl gb (by apply cQ; exact cM hs rfl (by omega) rfl) rfl rfl ?_; rintro _ _ ⟨q1, rfl, hq1b, hs, hE⟩; have hs := hs.toRow 0 2 2 1 (xs := [(1 : Int), 3].map (.int .i64)) (Nat.le_refl _) (by unfold maxLen; omega) (by decide) rfl)) | ((apply bZ 48; refine cH rfl gb (by exact aF en48 rfl (oT _ t11 (some ⟨q1, 0, none⟩) 2 u11 2 2 [1, 3] [1, 3] ((RowV.sl (hs.row t11 2 u11) h13).weak (fun _ _ => trivial)) ((RowV.sl (hs.row (some ⟨q1, 0, none⟩) 2 2) h13).weak (fun _ _ => trivial)))) rfl rfl ?_; rintro _ _ ⟨rfl, hE⟩; have hs := hs.ext hE; (try simp only [zcc] at hs))) | ((apply bZ 49; refine cH rfl gb (by exact aF en49 rfl ((sD _ t5 t6 k5 u5 m6 u6 W2 es2 (slG hs hq2 ho2 zmm zmm) (jL hs zmm zmm) (by omega) hx2 z2).mono (fun _ _ r => by rw [wB g2 he2 hA2, d3] at r; exact r))) rfl rfl ?_; rintro _ _ ⟨t12, u12, rfl, hf⟩; have hs := hs.fresh hf; (try simp only [zcc] at hs))) | ((refine cH (t := 87) rfl gb (by apply cQ; exact cM hs rfl (by omega) rfl) rfl rfl ?_; rintro _ _ ⟨q2, rfl, hq2b, hs, hE⟩; have hs := hs.toRow 0 3 3 1 (xs := [(1 : Int), 2, 3].map (.int .i64)) (Nat.le_refl _) (by unfold maxLen; omega) (by decide) rfl)) | ((apply bZ 48; refine cH rfl gb (by exact aF en48 rfl (oT _ t12 (some ⟨q2, 0, none⟩) 3 u12 3 3 [1, 2, 3] [1, 2, 3] ((RowV.sl (hs.row t12 3 u12) h123).weak (fun _ _ => trivial)) ((RowV.sl (hs.row (some ⟨q2, 0, none⟩) 3 3) h123).weak (fun _ _ => trivial)))) rfl rfl ?_; rintro _ _ ⟨rfl, hE⟩; have hs := hs.ext hE; (try simp only [zcc] at hs))) | (apply aT) | ((first | (apply aM) | (apply bO; exact rfl; exact gb)); (first | (apply aR; exact aH rfl aA) | (apply aC; exact aB rfl aA) | (apply aW; exact aI hs rfl aA) | (apply aL; exact aO rfl rfl rfl aA) | (apply bR; exact bL rfl gb rfl aA) | (apply cK; exact cA rfl rfl aA)); first | (exact rfl; exact rfl) | exact rfl) | (apply bD) | (apply aG) | (apply aP (t := 5); refine JL_o (by apply bB; exact aV hs) rfl rfl ?_; rintro _ _ ⟨b5, rfl, hb5, hs, hE⟩) | (apply aP (t := 8); refine JL_o (by apply bB; exact aV hs) rfl rfl ?_; rintro _ _ ⟨b8, rfl, hb8, hs, hE⟩) | (apply aP (t := 11); refine JL_o (by apply bB; exact aV hs) rfl rfl ?_; rintro _ _ ⟨b11, rfl, hb11, hs, hE⟩) | (apply aP (t := 14); refine JL_o (by apply bB; exact aV hs) rfl rfl ?_; rintro _ _ ⟨b14, rfl, hb14, hs, hE⟩) | (apply bK; refine JL_u (by apply bE; exact aX hs rfl rfl rfl) rfl ?_; rintro _ _ ⟨hs, hF⟩))
  refine aY Tryz.func30 rfl (.tmp rfl .nil) ⟨rfl, hs.frm.ext⟩
end Go.Eng
end
section
namespace Go.Eng
open Go.Proofs
set_option linter.unusedSimpArgs false
set_option linter.unusedVariables false
def cutN (x : NM) : NM := (x.1, x.2.1.take 14, x.2.2.1.take 20, x.2.2.2.take 20)
def qP (N : List NM) : List NM := (N.take 30).map cutN
def tO (E : List Ent) : List Ent := (E.take 128).map cutE
theorem aAd (N : List NM) : (qP N).length ≤ 30 := by unfold qP; rw [List.length_map, List.length_take]; omega
theorem aAe (E : List Ent) : (tO E).length ≤ 128 := by unfold tO; rw [List.length_map, List.length_take]; omega
def tiny (k : Nat) (N : List NM) : Prop := N.length ≤ 30 + k ∧ ∀ x ∈ N, x.2.1.length ≤ 14 + k ∧ x.2.2.1.length ≤ 20 + k ∧ x.2.2.2.length ≤ 20 + k
theorem yA (N : List NM) : tiny 0 (qP N) := ⟨aAd N, fun x hx => by
  unfold qP at hx
  obtain ⟨y, _, rfl⟩ := List.mem_map.1 hx
  unfold cutN
  refine ⟨?_, ?_, ?_⟩
  · show (y.2.1.take 14).length ≤ _; rw [List.length_take]; omega
  · show (y.2.2.1.take 20).length ≤ _; rw [List.length_take]; omega
  · show (y.2.2.2.take 20).length ≤ _; rw [List.length_take]; omega⟩
theorem tiny.sz {k : Nat} {N : List NM} (h : tiny k N) (hk : k ≤ 1000) : szN N := fun x hx => by
  obtain ⟨h1, h2, h3⟩ := h.2 x hx
  exact ⟨by omega, by omega, by omega⟩
theorem Sl.cutM {α : Type} {d : Ty α} {R : Nat → Prop} {w : World} {a : Option Addr} {n c : Nat} {xs : List α} (h : Sl d R w a n c xs) (m : Nat) : Sl d R w a (min n m) c (xs.take m) := by
  have h1 := h.cut (min n m) (Nat.min_le_left _ _)
  have hl := h.len
  have e : xs.take (min n m) = xs.take m := by rw [← hl, Nat.min_comm, ← List.take_eq_take_min]
  rwa [e] at h1
attribute [local irreducible] Hold J JL JD JX JXat OpR OpG Ret RetV Is Blk Row
set_option maxRecDepth 100000
set_option maxHeartbeats 2000000
theorem aA0 (w : World) (a a2 : Option Addr) (n c n2 c2 : Nat) (N : List NM) (E : List Ent) (h : Sl fR All w a n c N) (hE0 : Sl dEnt All w a2 n2 c2 E) :
    Ret Tryz.prog 31 #[.agg #[.slice a n c, .slice a2 n2 c2]] w fun v w' => ∃ (qs : List QN) (rs' : List REnt) (a' a2' : Option Addr) (c' c2' : Nat), (qs.map iE = qP N ∧ ∀ q ∈ qs, okN q) ∧ v = .agg #[.slice a' (qP N).length c', .slice a2' (tO E).length c2'] ∧ Fresh w w' [TabN a' (qP N).length c' (qs.map rawN), OwnN qs, dL a2' (tO E).length c2' rs', Own rs' (tO E)] := by
  refine cE (l := [_]) Tryz.func31 rfl Tryz.ntmps31 (by simp) ?_
  have hs := St.init w
  have hcap1 : n ≤ 9223372036854775807 := by have h1 := h.le; have h2 := h.cap; unfold maxLen at h2; omega
  have hcap2 : n2 ≤ 9223372036854775807 := by have h1 := hE0.le; have h2 := hE0.cap; unfold maxLen at h2; omega
  have hle1 := h.le
  have hle2 := hE0.le
  have h := h.cutM 30
  have hE0 := hE0.cutM 128
  have hl := h.len
  have hl2 := hE0.len
  have hNo := tI h
  have hEo := mW hE0
  obtain ⟨N1, hN1⟩ : ∃ N1, N1 = N.take 30 := ⟨_, rfl⟩
  obtain ⟨E1, hE1⟩ : ∃ E1, E1 = E.take 128 := ⟨_, rfl⟩
  have eN : qP N = N1.map cutN := by unfold qP; rw [hN1]
  have eE : tO E = E1.map cutE := by unfold tO; rw [hE1]
  rw [← hN1] at h hl hNo
  rw [← hE1] at hE0 hl2 hEo
  rw [eN, eE]
  clear eN eE hN1 hE1
  obtain ⟨k1, hk1⟩ : ∃ k1, k1 = min n 30 := ⟨_, rfl⟩
  obtain ⟨k2, hk2⟩ : ∃ k2, k2 = min n2 128 := ⟨_, rfl⟩
  rw [← hk1] at h hl
  rw [← hk2] at hE0 hl2
  obtain ⟨rs, hr, hm⟩ := Sl.raw (D := jC) h
  obtain ⟨re, hre, hme⟩ := Sl.raw (D := fZ) hE0
  have hlr := hr.len
  have hlre := hre.len
  repeat' (first | (apply aT) | ((apply aM); (first | (apply eA; exact eF (q := k1) rfl rfl (by omega) (by omega) aA) | (apply aR; exact aH rfl aA) | (apply aQ; exact aK rfl rfl aA) | (apply aW; exact aU hs rfl rfl aA) | (apply bM; exact bU rfl aA) | (apply mE; exact nX rfl rfl aA)); first | (exact rfl; exact rfl) | exact rfl) | (apply bD) | (apply aG) | (apply bA) | (apply aP (t := 1); refine JL_o (by apply cI; exact bS hs rfl) rfl rfl ?_; rintro _ _ ⟨b1, rfl, hb1, hs, hE⟩) | (apply aP (t := 2); refine JL_o (by apply bB; exact aV hs) rfl rfl ?_; rintro _ _ ⟨b2, rfl, hb2, hs, hE⟩) | (apply aP (t := 3); refine JL_o (by apply bB; exact aV hs) rfl rfl ?_; rintro _ _ ⟨b3, rfl, hb3, hs, hE⟩))
  have hs := hs.nilN.nilRow 79 4
  refine cZ (α := Nat × List QN × Option Addr × Nat) [(1, _), (2, _), (3, _), (14, _), (15, _)] (fun g => [(16, .int .i64 g.1)])
    (fun g w' => St w NoF w' [TabN g.2.2.1 g.1 g.2.2.2 (g.2.1.map rawN), OwnN g.2.1, Blk b3 (.cells #[.slice g.2.2.1 g.1 g.2.2.2, .slice none 0 0] 57 (0, 0)), Blk b2 (.cells #[.slice none 0 0, .slice none 0 0] 57 (0, 0)), Blk b1 (.cells #[.slice a n c, .slice a2 n2 c2] 57 (0, 0))] ∧ (g.2.1.map iE = (N1.take g.1).map cutN ∧ ∀ q ∈ g.2.1, okN q) ∧ g.1 ≤ k1)
    (fun g => k1 - g.1) (0, [], none, 0) ⟨hs, ⟨rfl, fun q hq => by cases hq⟩, Nat.zero_le _⟩ zss ?_
  rintro ⟨k, qs, a', c'⟩ w2 ⟨hs1, ⟨hqm, hqo⟩, hk⟩ ih
  dsimp only at hs1 hqm hqo hk ih ⊢
  have hql : qs.length = k := by have := congrArg List.length hqm; rw [List.length_map, List.length_map, List.length_take] at this; omega
  by_cases hlt : k < k1
  · obtain ⟨p, o, rfl⟩ := hr.sl.addr (by omega)
    have hs : St w NoF w2 [_, _, _, _, _] := hs1
    have hx : N1[k]? = some (N1[k]'(by omega)) := List.getElem?_eq_getElem (by omega)
    obtain ⟨x, hxd⟩ : ∃ x, x = N1[k]'(by omega) := ⟨_, rfl⟩
    rw [← hxd] at hx
    obtain ⟨o1, o2, o3⟩ := hNo x (List.mem_of_getElem? hx)
    obtain ⟨r, hrx, f1, f2, f3, f4⟩ := hm.get hx
    have f1 : r.1 = x.1 := f1
    have m1 : Sl dId All w r.2.1.1 r.2.1.2.1 r.2.1.2.2 x.2.1 := f2
    have m2 : Sl dStp All w r.2.2.1.1 r.2.2.1.2.1 r.2.2.1.2.2 x.2.2.1 := f3
    have m3 : Sl dStp All w r.2.2.2.1 r.2.2.2.2.1 r.2.2.2.2.2 x.2.2.2 := f4
    have l1 := m1.le
    have l2 := m2.le
    have l3 := m3.le
    have m1 := m1.cutM 14
    have m2 := m2.cutM 20
    have m3 := m3.cutM 20
    obtain ⟨q1, hq1⟩ : ∃ q, q = min r.2.1.2.1 14 := ⟨_, rfl⟩
    obtain ⟨q2, hq2⟩ : ∃ q, q = min r.2.2.1.2.1 20 := ⟨_, rfl⟩
    obtain ⟨q3, hq3⟩ : ∃ q, q = min r.2.2.2.2.1 20 := ⟨_, rfl⟩
    rw [← hq1] at m1
    rw [← hq2] at m2
    rw [← hq3] at m3
    have g1 := m1.len
    have g2 := m2.len
    have g3 := m3.len
    repeat' (first | ((apply ax_c; apply iL 24; exact rfl; (intro W X hN hs; exact aF en24 rfl (kO _ r.2.1.1 q1 r.2.1.2.2 (x.2.1.take 14) (m1.st hs) (by omega))); (rintro _ _ _ _ ⟨a5, c5, rfl, hf⟩; first | exact hE | exact Fresh.ext hf); rintro W X _ _ hN hs ⟨a5, c5, rfl, hf⟩; have hs := hs.fresh hf; (try simp only [zcc] at hs); refine JX.at hs ?_)) | ((apply ax_c; apply iL 93; exact rfl; (intro W X hN hs; exact aF en93 rfl (xD _ r.2.2.1.1 q2 r.2.2.1.2.2 (x.2.2.1.take 20) (m2.st hs) (by omega))); (rintro _ _ _ _ ⟨a6, c6, rfl, hf⟩; first | exact hE | exact Fresh.ext hf); rintro W X _ _ hN hs ⟨a6, c6, rfl, hf⟩; have hs := hs.fresh hf; (try simp only [zcc] at hs); refine JX.at hs ?_)) | ((apply ax_c; apply iL 93; exact rfl; (intro W X hN hs; exact aF en93 rfl (xD _ r.2.2.2.1 q3 r.2.2.2.2.2 (x.2.2.2.take 20) (m3.st hs) (by omega))); (rintro _ _ _ _ ⟨a7, c7, rfl, hf⟩; first | exact hE | exact Fresh.ext hf); rintro W X _ _ hN hs ⟨a7, c7, rfl, hf⟩; have hs := hs.fresh hf; (try simp only [zcc] at hs); refine JX.at hs ?_)) | ((apply aP (t := 51); refine JL_o (by apply dI; exact dV (xs := encL cNd (qs.map rawN)) (news := cNd (r.1, (a5, q1, c5), (a6, q2, c6), (a7, q3, c7))) hs rfl rfl (wD (r := (r.1, (a5, q1, c5), (a6, q2, c6), (a7, q3, c7))) (hs.blk (b := b50))) dW rfl (by omega) (by unfold maxLen; omega)) rfl rfl ?_; rintro _ _ ⟨a8, c8, rfl, hs, hF, hnil⟩)) | (apply aT) | ((first | (apply aM) | (apply JX_f; exact rfl; intro W X hs)); (first | (apply eA; first | exact eF (q := q1) rfl rfl (by omega) (by omega) aA | exact eF (q := q2) rfl rfl (by omega) (by omega) aA | exact eF (q := q3) rfl rfl (by omega) (by omega) aA) | (apply aW; first | exact aU hs rfl rfl aA | exact aI hs rfl aA | exact aZ (hr.st hs) hrx rfl rfl aA) | (apply aR; exact aH rfl aA) | (apply aQ; exact aK rfl rfl aA) | (apply cJ; exact bT rfl rfl (by omega) (by first | (simp only [Int.reduceAdd]; exact rfl) | exact rfl) aA) | (apply aL; exact aO rfl rfl rfl aA) | (apply bM; exact bU rfl aA) | (apply mE; exact nX rfl rfl aA) | (apply aN; exact aJ rfl rfl (by omega) (by omega) aA)); first | (exact rfl; exact rfl) | exact rfl) | (apply bD) | (apply aG) | (apply bA) | (apply bP) | (apply bH) | (apply aP (t := 5); refine JL_o (by apply bB; exact aV hs) rfl rfl ?_; rintro _ _ ⟨b5, rfl, hb5, hs, hE⟩) | (apply aP (t := 50); refine JL_o (by apply cQ; exact cM hs rfl (by omega) rfl) rfl rfl ?_; rintro _ _ ⟨b50, rfl, hb50, hs, hE⟩) | (apply bK; refine JL_u (by apply bE; exact aX hs rfl rfl rfl) rfl ?_; rintro _ _ ⟨hs, hF⟩) | (apply aS; refine bF rfl ob ?_) | (apply cW; (refine cR (id := 5) [0, 1, 0, 4, 12, 28, 63, 127, 0, 256, 0, 1024, 3072, 7168, 16128, 32767, 0, 65536, 0, 262144, 786432, 1835008, 4128768, 8388607, 987135, 33554431, 67108863, 134217727, 268435455, 536870911] [(0, 0), (1, 0), (2, 0), (3, 0), (4, 0), (5, 0), (6, 0), (8, 0), (9, 0), (10, 0), (11, 0), (12, 0), (13, 0), (14, 0), (16, 0), (17, 0), (18, 0), (19, 0), (20, 0), (21, 0), (22, 0), (7, 1), (24, 0), (15, 1), (23, 1)] [25, 26, 27, 28, 29] hs dP (by kernel_rfl) (by kernel_rfl) (by kernel_rfl) (by kernel_rfl) (by kernel_rfl) ?_)) | (refine cV (fun W hs => ?_)) | (apply fW; case' hos => (simp only [List.map_cons, List.map_nil, List.getElem?_toArray, List.getElem?_cons_succ, List.getElem?_cons_zero]; repeat' (first | exact gZ | apply fU))))
    rw [oM, tZ] at hs
    obtain ⟨q, hq⟩ : ∃ q : QN, q = (r.1, ((a5, q1, c5), x.2.1.take 14), ((a6, q2, c6), x.2.2.1.take 20), ((a7, q3, c7), x.2.2.2.take 20)) := ⟨_, rfl⟩
    have hs := St.packN (q := (r.1, ((a5, q1, c5), x.2.1.take 14), ((a6, q2, c6), x.2.2.1.take 20), ((a7, q3, c7), x.2.2.2.take 20))) (L := [OwnN qs, _, _, _, _]) (hs.sel [3, 2, 1, 6, 5, 7, 8, 9] (by decide))
    rw [← hq] at hs
    have hs := St.pushN hs
    have hmp : (qs ++ [q]).map rawN = qs.map rawN ++ [(r.1, (a5, q1, c5), (a6, q2, c6), (a7, q3, c7))] := by rw [List.map_append, hq]; rfl
    have hqok : okN q := by rw [hq]; exact ⟨⟨g1.symm, fun u hu => o1 u (List.mem_of_mem_take hu)⟩, ⟨g2.symm, fun u hu => o2 u (List.mem_of_mem_take hu)⟩, ⟨g3.symm, fun u hu => o3 u (List.mem_of_mem_take hu)⟩⟩
    have hqm2 : iE q = cutN x := by rw [hq]; exact nm_eq.2 ⟨f1, rfl, rfl, rfl⟩
    have htk : N1.take (k + 1) = N1.take k ++ [x] := by rw [List.take_add_one, hx]; rfl
    refine ih (k + 1, qs ++ [q], a8, c8) _ _ ⟨by dsimp only; rw [hmp]; exact hs.sel [1, 0, 2, 3, 4] (by decide), ⟨by dsimp only; rw [List.map_append, hqm, htk, List.map_append]; rw [List.map_cons, hqm2]; rfl, fun u hu => ?_⟩, by dsimp only; omega⟩ (by dsimp only; omega) zss
    rcases List.mem_append.1 hu with e | e
    · exact hqo u e
    · rw [List.mem_singleton.1 e]; exact hqok
  · have hkn : k = k1 := by omega
    subst hkn
    rw [List.take_of_length_le (by omega)] at hqm
    have hs : St w NoF w2 [_, _, _, _, _] := hs1
    repeat' (first | (apply aT) | ((apply aM); (first | (apply eA; exact eF (q := k2) rfl rfl (by omega) (by omega) aA) | (apply aR; exact aH rfl aA) | (apply aQ; first | exact aK rfl rfl aA | exact bN rfl rfl aA) | (apply aW; exact aU hs rfl rfl aA) | (apply aL; exact aO rfl rfl rfl aA) | (apply bM; exact bU rfl aA) | (apply mE; exact nX rfl rfl aA)); first | (exact rfl; exact rfl) | exact rfl) | (apply bD) | (apply aG) | (apply bA) | (apply cF; refine cU rfl ?_) | (apply aS; refine bQ rfl ob ?_))
    clear ih
    have hs := hs.nilOwn.nilRow 139 3
    refine cZ (α := Nat × List REnt × Option Addr × Nat) [(2, _), (3, _), (62, _), (63, _)] (fun g => [(64, .int .i64 g.1)])
      (fun g w' => St w NoF w' [dL g.2.2.1 g.1 g.2.2.2 g.2.1, Own g.2.1 ((E1.take g.1).map cutE), TabN a' k c' (qs.map rawN), OwnN qs, Blk b3 (.cells #[.slice a' k c', .slice g.2.2.1 g.1 g.2.2.2] 57 (0, 0)), Blk b2 (.cells #[.slice none 0 0, .slice none 0 0] 57 (0, 0)), Blk b1 (.cells #[.slice a n c, .slice a2 n2 c2] 57 (0, 0))] ∧ g.1 ≤ k2)
      (fun g => k2 - g.1) (0, [], none, 0) ⟨hs, Nat.zero_le _⟩ zss ?_
    rintro ⟨j, ro, a4, c4⟩ w3 ⟨hs2, hj⟩ ih
    dsimp only at hs2 hj ih ⊢
    by_cases hlt2 : j < k2
    · obtain ⟨p, o, rfl⟩ := hre.sl.addr (by omega)
      have hs : St w NoF w3 [_, _, _, _, _, _, _] := hs2
      have hx : E1[j]? = some (E1[j]'(by omega)) := List.getElem?_eq_getElem (by omega)
      obtain ⟨x, hxd⟩ : ∃ x, x = E1[j]'(by omega) := ⟨_, rfl⟩
      rw [← hxd] at hx
      obtain ⟨r, hrx, hrel⟩ := hme.get hx
      obtain ⟨o1, o2, o3⟩ := hEo x (List.mem_of_getElem? hx)
      have e1 : r.1 = x.1 := hrel.1
      have e3 : r.2.2 = x.2.2 := hrel.2.2
      have m1 : Sl dId All w r.2.1.1 r.2.1.2.1 r.2.1.2.2 x.2.1 := hrel.2.1
      have l1 := m1.le
      have m1 := m1.cutM 14
      obtain ⟨q1, hq1⟩ : ∃ q, q = min r.2.1.2.1 14 := ⟨_, rfl⟩
      rw [← hq1] at m1
      have g1 := m1.len
      repeat' (first | ((apply bC 24; refine JL_o (by exact aF en24 rfl (kO _ r.2.1.1 q1 r.2.1.2.2 (x.2.1.take 14) (m1.st hs) (by omega))) rfl rfl ?_; rintro _ _ ⟨a5, c5, rfl, hf⟩; have hs := hs.fresh hf; (try simp only [zcc] at hs))) | ((apply aP (t := 82); refine JL_o (by apply dI; exact dV (xs := encL cS ro) (news := cS (r.1, (a5, q1, c5), r.2.2)) hs rfl rfl (kD (r := (r.1, (a5, q1, c5), r.2.2)) (hs.blk (b := b81))) dW rfl (by omega) (by unfold maxLen; omega)) rfl rfl ?_; rintro _ _ ⟨a8, c8, rfl, hs, hF, hnil⟩)) | (apply aT) | ((apply aM); (first | (apply eA; exact eF (q := q1) rfl rfl (by omega) (by omega) aA) | (apply aW; first | exact aU hs rfl rfl aA | exact aI hs rfl aA | exact aZ (hre.st hs) hrx rfl rfl aA) | (apply aR; exact aH rfl aA) | (apply aQ; first | exact aK rfl rfl aA | exact bN rfl rfl aA) | (apply cJ; exact bT rfl rfl (by omega) (by first | (simp only [Int.reduceAdd]; exact rfl) | exact rfl) aA) | (apply aL; exact aO rfl rfl rfl aA) | (apply bM; exact bU rfl aA) | (apply mE; exact nX rfl rfl aA) | (apply aN; exact aJ rfl rfl (by omega) (by omega) aA)); first | (exact rfl; exact rfl) | exact rfl) | (apply bD) | (apply aG) | (apply bA) | (apply bP) | (apply bH) | (apply aP (t := 7); refine JL_o (by apply bB; exact aV hs) rfl rfl ?_; rintro _ _ ⟨b7, rfl, hb7, hs, hE⟩) | (apply aP (t := 81); refine JL_o (by apply cQ; exact cM hs rfl (by omega) rfl) rfl rfl ?_; rintro _ _ ⟨b81, rfl, hb81, hs, hE⟩) | (apply bK; refine JL_u (by apply bE; exact aX hs rfl rfl rfl) rfl ?_; rintro _ _ ⟨hs, hF⟩) | (apply aS; refine bF rfl ob ?_))
      have hcc : encL cS ro ++ cS (r.1, (a5, q1, c5), r.2.2) = encL cS (ro ++ [(r.1, (a5, q1, c5), r.2.2)]) := by rw [gP]; simp [encL]
      rw [show encL cS ro ++ cS (r.1, (a5, q1, c5), r.2.2) = encL cS (ro ++ [(r.1, (a5, q1, c5), r.2.2)]) from hcc] at hs
      have hs : St w NoF _ [_, _, _, _, _, _, _, _] := hs.sel [1, 4, 3, 5, 6, 7, 8, 9] (by decide)
      have hs := St.pushOwn hs g1.symm r.1 r.2.2 (by rw [e1]; exact o1) (by rw [e3]; exact o2) (fun u hu => o3 u (List.mem_of_mem_take hu))
      have hce : (r.1, x.2.1.take 14, r.2.2) = cutE x := by unfold cutE; rw [e1, e3]
      have htk : (E1.take j).map cutE ++ [cutE x] = (E1.take (j + 1)).map cutE := by rw [List.take_add_one, hx, List.map_append]; rfl
      rw [hce, htk] at hs
      refine ih (j + 1, ro ++ [(r.1, (a5, q1, c5), r.2.2)], a8, c8) _ _ ⟨hs.sel [1, 0, 2, 3, 4, 5, 6] (by decide), by dsimp only; omega⟩ (by dsimp only; omega) zss
    · have hkn : j = k2 := by omega
      subst hkn
      rw [List.take_of_length_le (by omega)] at hs2
      have hs : St w NoF w3 [_, _, _, _, _, _, _] := hs2
      repeat' (first | (apply aT) | ((apply aM); (first | (apply aW; exact aI hs rfl aA) | (apply aL; exact aO rfl rfl rfl aA)); first | (exact rfl; exact rfl) | exact rfl) | (apply bD) | (apply aG) | (apply cF; refine cU rfl ?_) | (apply bK; refine JL_u (by apply bE; exact aX hs rfl rfl rfl) rfl ?_; rintro _ _ ⟨hs, hF⟩) | (apply aS; refine bQ rfl ob ?_))
      rw [show (N1.map cutN).length = k by rw [List.length_map, hl], show (E1.map cutE).length = j by rw [List.length_map, hl2]]
      refine aY Tryz.func31 rfl (.agg' hs rfl rfl .nil) ⟨qs, ro, a', a4, c', c4, ⟨hqm, hqo⟩, rfl, (hs.sel [2, 3, 0, 1] (by decide)).out (List.Sublist.refl _)⟩
end Go.Eng
end
