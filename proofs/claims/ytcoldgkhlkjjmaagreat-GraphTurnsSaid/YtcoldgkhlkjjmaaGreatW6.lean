/- The texts G18, G19, G21, G20, G22, G23, G24, joined: what of them serves. -/
import Derived.Test.YtcoldgkhlkjjmaaGreatW5
section
namespace Go.Eng
open Go.Proofs
set_option linter.unusedSimpArgs false
set_option linter.unusedVariables false
theorem jR {N : List NM} (h : tW N = false) : jY N = false := by unfold jY; rw [h]; rfl
theorem iA {N : List NM} {k : Nat} (hk : k < N.length) (h : nZ N k = false) : jY N = false := by
  unfold jY
  rw [show (List.range N.length).all (nZ N) = false from List.all_eq_false.2 ⟨k, List.mem_range.2 hk, by rw [h]; decide⟩]
  simp
def FromN (rs : List RNd) (N : List NM) (p : ZE) : Prop := ∃ (k : Nat) (r : RNd) (y : NM), rs[k]? = some r ∧ N[k]? = some y ∧ p = ((1, r.2.1, (k : Int) + 1), (1, y.2.1, (k : Int) + 1))
theorem FromN.rel {R : Nat → Prop} {w : World} {rs : List RNd} {N : List NM} {p : ZE} (h : FromN rs N p) (hm : MeanV mNode R w rs N) : mEnt.rel R w p.1 p.2 := by
  obtain ⟨k, r, y, h1, h2, rfl⟩ := h
  obtain ⟨_, f2, _⟩ := fQ (hm.2 k r y h1 h2)
  exact ⟨rfl, f2, rfl⟩
theorem FromN.ok {rs : List RNd} {N : List NM} {p : ZE} (h : FromN rs N p) (hn : rs.length ≤ 1000000) : okE p.1 := by
  obtain ⟨k, r, y, h1, h2, rfl⟩ := h
  have := (List.getElem?_eq_some_iff.1 h1).1
  refine ⟨?_, trivial, ?_⟩
  · show inK .i64 1
    unfold inK; simp only [IntKind.min, IntKind.max, IntKind.bits, IntKind.signed]; omega
  · show inK .i64 ((k : Int) + 1)
    unfold inK; simp only [IntKind.min, IntKind.max, IntKind.bits, IntKind.signed]; omega
theorem nF {R : Nat → Prop} {w : World} {rs : List RNd} {N : List NM} {zs : List ZE} (h : ∀ p ∈ zs, FromN rs N p) (hm : MeanV mNode R w rs N) : MeanV mEnt R w (zs.map Prod.fst) (zs.map Prod.snd) := .of_all (fun p hp => (h p hp).rel hm)
theorem sJ {rs : List RNd} {N : List NM} {zs : List ZE} (h : ∀ p ∈ zs, FromN rs N p) (hn : rs.length ≤ 1000000) : ∀ r ∈ zs.map Prod.fst, okE r := fun r hr => by
  obtain ⟨p, hp, rfl⟩ := List.mem_map.1 hr
  exact (h p hp).ok hn
attribute [local irreducible] Hold J JL JD JX JXat OpR OpG Ret RetV Is Blk Row
set_option maxRecDepth 100000
set_option maxHeartbeats 2000000
theorem oK (w : World) (a : Option Addr) (n c : Nat) (rs : List RNd) (N : List NM) (hr : Sl dRNd All w a n c rs) (hm : MeanV mNode All w rs N) (hn : n ≤ 1000000) :
    Ret Tryz.prog 98 #[.slice a n c] w fun v w' => ∃ (zs : List ZE) (a' : Option Addr) (c' : Nat), (zs.map Prod.snd = dZ N ∧ ∀ p ∈ zs, FromN rs N p) ∧ v = .slice a' (dX N) c' ∧ Fresh w w' [bZ a' (dX N) c' (zs.map Prod.fst)] := by
  refine bI (l := [_]) Tryz.func98 rfl Tryz.ntmps98 (by simp) ?_
  have hs := St.init w
  have hlr := hr.len
  have hl : N.length = n := by rw [← hm.1]; exact hlr
  repeat' (first | (apply aH) | ((apply aC); exact zop; first | (exact rfl; exact rfl) | exact rfl) | (apply aQ) | (apply aB) | (apply aN))
  have hs := hs.nilRow 139 3
  refine bT (α := Nat × List ZE × Nat × Option Addr × Nat) [(6, _), (7, _)] (fun g => [(3, .slice g.2.2.2.1 g.2.2.1 g.2.2.2.2), (8, .int .i64 g.1)])
    (fun g w' => St w NoF w' [bZ g.2.2.2.1 g.2.2.1 g.2.2.2.2 (g.2.1.map Prod.fst)] ∧ g.1 ≤ n ∧ (g.2.1.map Prod.snd = yM N g.1 ∧ ∀ p ∈ g.2.1, FromN rs N p) ∧ g.2.2.1 = g.2.1.length ∧ g.2.2.1 ≤ g.1)
    (fun g => n - g.1) (0, [], 0, none, 0) ⟨hs.sel [0] (by decide), Nat.zero_le _, ⟨rfl, fun p hp => by cases hp⟩, rfl, Nat.le_refl _⟩ zss ?_
  rintro ⟨k, zs, m, a5, c5⟩ w2 ⟨hs1, hk, ⟨hzs, hzr⟩, hml, hmk⟩ ih
  dsimp only at hs1 hk hzs hzr hml hmk ih ⊢
  have hzo := sJ hzr (by omega)
  by_cases hlt : k < n
  · obtain ⟨p, o, rfl⟩ := hr.sl.addr (by omega)
    have hs : St w NoF w2 [_] := hs1
    have hy : N[k]? = some (N[k]'(by omega)) := List.getElem?_eq_getElem (by omega)
    obtain ⟨y, hyd⟩ : ∃ y, y = N[k]'(by omega) := ⟨_, rfl⟩
    rw [← hyd] at hy
    obtain ⟨r, hrx, hrel⟩ := hm.get hy
    obtain ⟨f1, f2, f3, f4⟩ := fQ hrel
    have hat := yL N k
    rw [cK hy, ← hzs, ← f1] at hat
    obtain ⟨rb, hrb⟩ : ∃ b, r.1 = b := ⟨_, rfl⟩
    rw [hrb] at hat
    cases rb with
    | false =>
      rw [if_neg (by decide)] at hat
      repeat' (first | (apply aH) | ((apply aC); (first | (apply aT; exact aO (i := k) (hr.st hs) hrx rfl rfl aI) | exact zop); first | (exact rfl; exact rfl) | exact rfl) | (apply aQ) | (apply aB) | (apply aN) | (apply aW) | (apply aV) | (apply aF (t := 5); refine JL_o (by apply aR; exact aJ hs) rfl rfl ?_; rintro _ _ ⟨b5, rfl, hb5, hs, hE⟩) | (apply aU; refine JL_u (by apply aP; exact aK hs rfl rfl rfl) rfl ?_; rintro _ _ ⟨hs, hF⟩) | (apply aG; first | refine aS rfl ob ?_ | refine bD rfl gb ?_))
      refine ih (k + 1, zs, m, a5, c5) _ _ ⟨hs.sel [1] (by decide), hlt, ⟨hat.symm, hzr⟩, hml, by dsimp only; omega⟩ (by dsimp only; omega) zss
    | true =>
      rw [if_pos rfl] at hat
      have hentk : vR N k = (1, y.2.1, (k : Int) + 1) := by rw [vR, cK hy]
      rw [hentk] at hat
      obtain ⟨re, hre⟩ : ∃ re : REnt, re = (1, r.2.1, (k : Int) + 1) := ⟨_, rfl⟩
      have hrer : mEnt.rel All w re (1, y.2.1, (k : Int) + 1) := by rw [hre]; exact ⟨rfl, f2, rfl⟩
      have hmean : MeanV mEnt All w (zs.map Prod.fst) (zs.map Prod.snd) := nF hzr hm
      have hrv : (Value.agg #[.int .i64 1, .slice r.2.1.1 r.2.1.2.1 r.2.1.2.2, .int .i64 ((k : Int) + 1)]) = .agg (bS re).toArray := by rw [hre]
      repeat' (first | ((apply aF (t := 21); have hcon := zL _ a5 m c5 (zs.map Prod.fst) (zs.map Prod.snd) re (1, y.2.1, (k : Int) + 1) (tM (hs.row a5 m c5) hzo) (hmean.st hs) (mEnt.loc hrer (fun k _ hk => hs.frm.old k hk id)) (by omega); rw [← hrv] at hcon; refine JL_o (aA en169 rfl hcon) rfl rfl ?_; rintro _ _ ⟨zs2, a4, c4, hz2, hz3, rfl, hf⟩; have hs := hs.fresh hf)) | (apply aH) | ((apply aC); (first | (apply aT; exact aO (i := k) (hr.st hs) hrx rfl rfl aI) | exact zop); first | (exact rfl; exact rfl) | exact rfl) | (apply aQ) | (apply aB) | (apply aN) | (apply aW) | (apply aV) | (apply aF (t := 5); refine JL_o (by apply aR; exact aJ hs) rfl rfl ?_; rintro _ _ ⟨b5, rfl, hb5, hs, hE⟩) | (apply aU; refine JL_u (by apply aP; exact aK hs rfl rfl rfl) rfl ?_; rintro _ _ ⟨hs, hF⟩) | (apply aG; first | refine aS rfl ob ?_ | refine bB rfl gb ?_))
      have hzl2 : zs2.length = m + 1 := by
        have h1 := congrArg List.length hz2
        rw [List.length_map, (mV _ _).length_eq, List.length_cons, List.length_map] at h1
        omega
      refine ih (k + 1, zs2, m + 1, a4, c4) _ _ ⟨hs.sel [0] (by decide), hlt, ⟨hz2.trans hat.symm, fun p hp => ?_⟩, hzl2.symm, by dsimp only; omega⟩ (by dsimp only; omega) zss
      rcases hz3 p hp with e | e
      · obtain ⟨i, hi⟩ := List.mem_iff_getElem?.1 e
        rw [List.getElem?_zip_eq_some, List.getElem?_map, List.getElem?_map] at hi
        obtain ⟨h1, h2⟩ := hi
        cases hzi : zs[i]? with
        | none => rw [hzi] at h1; cases h1
        | some z =>
          rw [hzi] at h1 h2
          have : p = z := Prod.ext (Option.some.inj h1).symm (Option.some.inj h2).symm
          rw [this]
          exact hzr z (List.mem_of_getElem? hzi)
      · rw [e]; exact ⟨k, r, y, hrx, hy, by rw [hre]⟩
  · have hs : St w NoF w2 [_] := hs1
    have hkn : k = N.length := by omega
    rw [hkn] at hzs
    have hu : dZ N = zs.map Prod.snd := hzs.symm
    have hmu : dX N = m := by rw [← fV, hu, List.length_map, hml]
    rw [hu, hmu]
    repeat' (first | (apply aH) | ((apply aC); exact zop; first | (exact rfl; exact rfl) | exact rfl) | (apply aQ) | (apply aB) | (apply bG; refine bP rfl ?_) | (apply aG; refine aZ rfl ob ?_))
    refine aM Tryz.func98 rfl (.tmp rfl .nil) ⟨zs, a5, c5, ⟨rfl, hzr⟩, rfl, hs.out (List.Sublist.refl _)⟩
theorem nC (w : World) (a : Option Addr) (n c : Nat) (N : List NM) (h : Sl eD All w a n c N) (hz : szN N) :
    Ret Tryz.prog 94 #[.slice a n c] w fun v w' => v = .bool (jY N) ∧ Ext w w' := by
  refine bI (l := [_]) Tryz.func94 rfl Tryz.ntmps94 (by simp) ?_
  have hs := St.init w
  have hl := h.len
  obtain ⟨rs, hr, hm⟩ := Sl.raw (D := gD) h
  have hmx := maxN h
  by_cases hn0 : n = 0
  · have hn0' : (n : Int) = 0 := by omega
    rw [jR (by unfold tW; rw [decide_eq_false (by omega)]; rfl)]
    repeat' (first | (apply aH) | ((apply aC); exact zop; first | (exact rfl; exact rfl) | exact rfl) | (apply aQ) | (apply aB) | (apply bK; (refine cY rfl gb rfl ?_)) | (apply aG; refine bB rfl gb ?_))
    refine aM Tryz.func94 rfl (.tmp rfl .nil) ⟨rfl, hs.frm.ext⟩
  have hn0' : ¬ (n : Int) = 0 := by omega
  obtain ⟨p, o, rfl⟩ := hr.sl.addr (by omega)
  have hx0 : N[0]? = some (N[0]'(by omega)) := List.getElem?_eq_getElem (by omega)
  obtain ⟨x0, hxd0⟩ : ∃ x, x = N[0]'(by omega) := ⟨_, rfl⟩
  rw [← hxd0] at hx0
  obtain ⟨r0, hr0, hrel0⟩ := hm.get hx0
  obtain ⟨u1, u2, u3, u4⟩ := fQ hrel0
  have hln0 := u2.len
  have hxl : N[n - 1]? = some (N[n - 1]'(by omega)) := List.getElem?_eq_getElem (by omega)
  obtain ⟨xl, hxdl⟩ : ∃ x, x = N[n - 1]'(by omega) := ⟨_, rfl⟩
  rw [← hxdl] at hxl
  obtain ⟨rl, hrl, hrell⟩ := hm.get hxl
  obtain ⟨v1, _⟩ := fQ hrell
  have hrl' : rs[((n : Int) - 1).toNat]? = some rl := by rw [show ((n : Int) - 1).toNat = n - 1 by omega]; exact hrl
  have hhd : tW N = (rl.1 && (r0.1 && decide (r0.2.1.2.1 = 0))) := by
    unfold tW
    have e1 : cZ N 1 = x0 := cO (k := 0) hx0
    have e2 : cZ N N.length = xl := by
      rw [nD (by omega), hxdl]
      congr 1; omega
    rw [e1, e2, decide_eq_true (by omega), ← u1, ← v1, hln0, Bool.true_and]
  obtain ⟨bl, hbl⟩ : ∃ b, rl.1 = b := ⟨_, rfl⟩
  obtain ⟨b0, hb0⟩ : ∃ b, r0.1 = b := ⟨_, rfl⟩
  rw [hbl, hb0] at hhd
  cases bl with
  | false =>
    have hbln : (!rl.1) = true := by rw [hbl]; rfl
    rw [jR (by rw [hhd]; rfl)]
    repeat' (first | (apply aH) | ((first | (apply aC) | (apply bA; exact rfl; exact gb)); (first | (apply aT; first | exact aX (i := ((n : Int) - 1).toNat) (j := 0) (hr.st hs) hrl' rfl rfl rfl aI) | exact zop); first | (exact rfl; exact rfl) | exact rfl) | (apply aQ) | (apply aB) | (apply bK; (refine cY rfl gb rfl ?_)) | (apply aG; refine bB rfl gb ?_))
    refine aM Tryz.func94 rfl (.tmp rfl .nil) ⟨rfl, hs.frm.ext⟩
  | true =>
  have hbln : (!rl.1) = false := by rw [hbl]; rfl
  cases b0 with
  | false =>
    have hb0n : (!r0.1) = true := by rw [hb0]; rfl
    rw [jR (by rw [hhd]; rfl)]
    repeat' (first | (apply aH) | ((first | (apply aC) | (apply bA; exact rfl; exact gb)); (first | (apply aT; first | exact aX (i := ((n : Int) - 1).toNat) (j := 0) (hr.st hs) hrl' rfl rfl rfl aI | exact aX (i := 0) (j := 0) (hr.st hs) hr0 rfl rfl rfl aI) | exact zop); first | (exact rfl; exact rfl) | exact rfl) | (apply aQ) | (apply aB) | (apply bK; (refine cY rfl gb rfl ?_)) | (apply aG; refine bB rfl gb ?_))
    refine aM Tryz.func94 rfl (.tmp rfl .nil) ⟨rfl, hs.frm.ext⟩
  | true =>
  have hb0n : (!r0.1) = false := by rw [hb0]; rfl
  by_cases ht0 : r0.2.1.2.1 = 0
  rotate_left
  · have ht0' : (r0.2.1.2.1 : Int) > 0 := by omega
    rw [jR (by rw [hhd, decide_eq_false ht0]; rfl)]
    repeat' (first | (apply aH) | ((first | (apply aC) | (apply bA; exact rfl; exact gb)); (first | (apply aT; first | exact aX (i := ((n : Int) - 1).toNat) (j := 0) (hr.st hs) hrl' rfl rfl rfl aI | exact aX (i := 0) (j := 0) (hr.st hs) hr0 rfl rfl rfl aI | exact aX (i := 0) (j := 1) (hr.st hs) hr0 rfl rfl rfl aI) | exact zop); first | (exact rfl; exact rfl) | exact rfl) | (apply aQ) | (apply aB) | (apply aG; refine aS rfl ob ?_))
    refine aM Tryz.func94 rfl (.tmp rfl .nil) ⟨rfl, hs.frm.ext⟩
  have ht0' : ¬ (r0.2.1.2.1 : Int) > 0 := by omega
  rw [decide_eq_true ht0] at hhd
  have hhd : tW N = true := hhd
  repeat' (first | (apply aH) | ((first | (apply aC) | (apply bA; exact rfl; exact gb)); (first | (apply aT; first | exact aX (i := ((n : Int) - 1).toNat) (j := 0) (hr.st hs) hrl' rfl rfl rfl aI | exact aX (i := 0) (j := 0) (hr.st hs) hr0 rfl rfl rfl aI | exact aX (i := 0) (j := 1) (hr.st hs) hr0 rfl rfl rfl aI) | exact zop); first | (exact rfl; exact rfl) | exact rfl) | (apply aQ) | (apply aB) | (apply aN) | (apply aV) | (apply aG; refine aZ rfl ob ?_))
  refine bT (α := Nat) [(0, _), (34, _), (35, _)] (fun k => [(3, .int .i64 (dX (N.take k))), (36, .int .i64 k)]) (fun k w' => St w NoF w' [] ∧ k ≤ n ∧ ∀ j, j < k → nZ N j = true) (fun k => n - k) 0 ⟨hs.sel [] (by decide), Nat.zero_le _, fun j hj => absurd hj (Nat.not_lt_zero _)⟩ zss ?_
  rintro k w2 ⟨hs1, hk, hall⟩ ih
  have hs : St w NoF w2 [] := hs1
  by_cases hlt : k < n
  · have hv : N[k]? = some (N[k]'(by omega)) := List.getElem?_eq_getElem (by omega)
    obtain ⟨x, hxd⟩ : ∃ x, x = N[k]'(by omega) := ⟨_, rfl⟩
    rw [← hxd] at hv
    obtain ⟨z1, z2, z3⟩ := hz x (List.mem_of_getElem? hv)
    obtain ⟨r, hrx, hrel⟩ := hm.get hv
    obtain ⟨e1, m1, m2, m3⟩ := fQ hrel
    have l1 := m1.len
    have l2 := m2.len
    have l3 := m3.len
    have hnb : nZ N k = if x.1 then dF x.2.1 && (decide (eX N x.2.1 = k + 1) && (gO N ((k : Int) + 1) x.2.2.1 true && gO N ((k : Int) + 1) x.2.2.2 false)) else decide (x.2.1.length + x.2.2.1.length + x.2.2.2.length = 0) := by unfold nZ; rw [cK hv]
    have hmu : dX (N.take (k + 1)) = dX (N.take k) + if x.1 then 1 else 0 := by
      unfold dX
      rw [dU _ hv, List.length_append]
      cases x.1 <;> rfl
    have hmul : dX (N.take k) ≤ k := by unfold dX; exact Nat.le_trans (List.length_filter_le _ _) (by rw [List.length_take]; omega)
    rw [← e1] at hnb hmu
    obtain ⟨xb, hxb⟩ : ∃ b, r.1 = b := ⟨_, rfl⟩
    rw [hxb] at hnb hmu
    cases xb with
    | false =>
      have hxn : (!r.1) = true := by rw [hxb]; rfl
      rw [if_neg (by decide)] at hnb hmu
      by_cases hs0 : x.2.1.length + x.2.2.1.length + x.2.2.2.length = 0
      · have hs0' : ¬ (r.2.1.2.1 : Int) + r.2.2.1.2.1 + r.2.2.2.2.1 > 0 := by omega
        repeat' (first | (apply aH) | ((apply aC); (first | (apply aT; exact aO (i := k) (hr.st hs) hrx rfl rfl aI) | exact zop); first | (exact rfl; exact rfl) | exact rfl) | (apply aQ) | (apply aB) | (apply aN) | (apply bG; refine bP rfl ?_) | (apply aV) | (apply aF (t := 5); refine JL_o (by apply aR; exact aJ hs) rfl rfl ?_; rintro _ _ ⟨b5, rfl, hb5, hs, hE⟩) | (apply aU; refine JL_u (by apply aP; exact aK hs rfl rfl rfl) rfl ?_; rintro _ _ ⟨hs, hF⟩) | (apply aG; first | refine aS rfl ob ?_ | refine aZ rfl ob ?_ | refine bB rfl gb ?_))
        refine ih (k + 1) _ _ ⟨hs.sel [] (by decide), hlt, fun j hj => ?_⟩ (by omega) (by rw [hmu]; repeat' (first | exact trivial | exact rfl | apply And.intro))
        by_cases e : j = k
        · rw [e, hnb, decide_eq_true hs0]
        · exact hall j (by omega)
      · have hs0' : (r.2.1.2.1 : Int) + r.2.2.1.2.1 + r.2.2.2.2.1 > 0 := by omega
        rw [iA (k := k) (by omega) (hnb.trans (decide_eq_false hs0))]
        repeat' (first | (apply aH) | ((apply aC); (first | (apply aT; exact aO (i := k) (hr.st hs) hrx rfl rfl aI) | exact zop); first | (exact rfl; exact rfl) | exact rfl) | (apply aQ) | (apply aB) | (apply aN) | (apply aV) | (apply aF (t := 5); refine JL_o (by apply aR; exact aJ hs) rfl rfl ?_; rintro _ _ ⟨b5, rfl, hb5, hs, hE⟩) | (apply aU; refine JL_u (by apply aP; exact aK hs rfl rfl rfl) rfl ?_; rintro _ _ ⟨hs, hF⟩) | (apply aG; first | refine aS rfl ob ?_ | refine bB rfl gb ?_))
        refine aM Tryz.func94 rfl (.tmp rfl .nil) ⟨rfl, hs.frm.ext⟩
    | true =>
      have hxn : (!r.1) = false := by rw [hxb]; rfl
      rw [if_pos rfl] at hnb hmu
      obtain ⟨f1, hf⟩ : ∃ f1 : Nat, eX N x.2.1 = f1 := ⟨_, rfl⟩
      obtain ⟨tb, htb⟩ : ∃ b, dF x.2.1 = b := ⟨_, rfl⟩
      obtain ⟨sp, hsp⟩ : ∃ b, gO N ((k : Int) + 1) x.2.2.1 true = b := ⟨_, rfl⟩
      obtain ⟨sl, hsl⟩ : ∃ b, gO N ((k : Int) + 1) x.2.2.2 false = b := ⟨_, rfl⟩
      rw [hf, htb, hsp, hsl] at hnb
      cases tb with
      | false =>
        rw [iA (k := k) (by omega) (by rw [hnb]; rfl)]
        repeat' (first | ((apply aL 26; refine JL_o (by exact aA en26 rfl (eQ _ r.2.1.1 r.2.1.2.1 r.2.1.2.2 x.2.1 (m1.st hs))) rfl rfl ?_; rintro _ _ ⟨rfl, hE⟩; rw [htb]; have hs := hs.ext hE; (try simp only [zcc] at hs))) | (apply aH) | ((apply aC); (first | (apply aT; exact aO (i := k) (hr.st hs) hrx rfl rfl aI) | exact zop); first | (exact rfl; exact rfl) | exact rfl) | (apply aQ) | (apply aB) | (apply aN) | (apply aV) | (apply aF (t := 5); refine JL_o (by apply aR; exact aJ hs) rfl rfl ?_; rintro _ _ ⟨b5, rfl, hb5, hs, hE⟩) | (apply aU; refine JL_u (by apply aP; exact aK hs rfl rfl rfl) rfl ?_; rintro _ _ ⟨hs, hF⟩) | (apply bK; (refine cY rfl gb rfl ?_)) | (apply aG; first | refine aS rfl ob ?_ | refine bB rfl gb ?_ | refine bD rfl gb ?_))
        refine aM Tryz.func94 rfl (.tmp rfl .nil) ⟨rfl, hs.frm.ext⟩
      | true =>
      by_cases hf1 : f1 = k + 1
      rotate_left
      · have hf1' : (f1 : Int) ≠ (k : Int) + 1 := by omega
        rw [iA (k := k) (by omega) (by rw [hnb, decide_eq_false hf1]; rfl)]
        repeat' (first | ((apply aL 26; refine JL_o (by exact aA en26 rfl (eQ _ r.2.1.1 r.2.1.2.1 r.2.1.2.2 x.2.1 (m1.st hs))) rfl rfl ?_; rintro _ _ ⟨rfl, hE⟩; rw [htb]; have hs := hs.ext hE; (try simp only [zcc] at hs))) | ((apply bE 57; refine bM rfl gb (by exact aA en57 rfl (iB _ (some ⟨p, o, none⟩) r.2.1.1 n c r.2.1.2.1 r.2.1.2.2 N x.2.1 (h.st hs) (m1.st hs))) rfl rfl ?_; rintro _ _ ⟨rfl, hE⟩; rw [hf]; have hs := hs.ext hE; (try simp only [zcc] at hs))) | (apply aH) | ((first | (apply aC) | (apply bA; exact rfl; exact gb)); (first | (apply aT; exact aO (i := k) (hr.st hs) hrx rfl rfl aI) | exact zop); first | (exact rfl; exact rfl) | exact rfl) | (apply aQ) | (apply aB) | (apply aN) | (apply aV) | (apply aF (t := 5); refine JL_o (by apply aR; exact aJ hs) rfl rfl ?_; rintro _ _ ⟨b5, rfl, hb5, hs, hE⟩) | (apply aU; refine JL_u (by apply aP; exact aK hs rfl rfl rfl) rfl ?_; rintro _ _ ⟨hs, hF⟩) | (apply bK; (refine cY rfl gb rfl ?_)) | (apply aG; first | refine aS rfl ob ?_ | refine bB rfl gb ?_ | refine bD rfl gb ?_))
        refine aM Tryz.func94 rfl (.tmp rfl .nil) ⟨rfl, hs.frm.ext⟩
      have hf1' : ¬ (f1 : Int) ≠ (k : Int) + 1 := by omega
      rw [decide_eq_true hf1] at hnb
      cases sp with
      | false =>
        rw [iA (k := k) (by omega) (by rw [hnb]; rfl)]
        repeat' (first | ((apply aL 26; refine JL_o (by exact aA en26 rfl (eQ _ r.2.1.1 r.2.1.2.1 r.2.1.2.2 x.2.1 (m1.st hs))) rfl rfl ?_; rintro _ _ ⟨rfl, hE⟩; rw [htb]; have hs := hs.ext hE; (try simp only [zcc] at hs))) | ((apply bE 57; refine bM rfl gb (by exact aA en57 rfl (iB _ (some ⟨p, o, none⟩) r.2.1.1 n c r.2.1.2.1 r.2.1.2.2 N x.2.1 (h.st hs) (m1.st hs))) rfl rfl ?_; rintro _ _ ⟨rfl, hE⟩; rw [hf]; have hs := hs.ext hE; (try simp only [zcc] at hs))) | ((apply bE 167; refine bM rfl gb (by exact aA aBj rfl (iY _ (some ⟨p, o, none⟩) r.2.2.1.1 n c r.2.2.1.2.1 r.2.2.1.2.2 N k x.2.2.1 true (h.st hs) hlt hz (m2.st hs))) rfl rfl ?_; rintro _ _ ⟨rfl, hE⟩; rw [hsp]; have hs := hs.ext hE; (try simp only [zcc] at hs))) | (apply aH) | ((first | (apply aC) | (apply bA; exact rfl; exact gb)); (first | (apply aT; exact aO (i := k) (hr.st hs) hrx rfl rfl aI) | exact zop); first | (exact rfl; exact rfl) | exact rfl) | (apply aQ) | (apply aB) | (apply aN) | (apply aV) | (apply aF (t := 5); refine JL_o (by apply aR; exact aJ hs) rfl rfl ?_; rintro _ _ ⟨b5, rfl, hb5, hs, hE⟩) | (apply aU; refine JL_u (by apply aP; exact aK hs rfl rfl rfl) rfl ?_; rintro _ _ ⟨hs, hF⟩) | (apply bK; (refine cY rfl gb rfl ?_)) | (apply aG; first | refine aS rfl ob ?_ | refine bB rfl gb ?_ | refine bD rfl gb ?_))
        refine aM Tryz.func94 rfl (.tmp rfl .nil) ⟨rfl, hs.frm.ext⟩
      | true =>
      cases sl with
      | false =>
        rw [iA (k := k) (by omega) (by rw [hnb]; rfl)]
        repeat' (first | ((apply aL 26; refine JL_o (by exact aA en26 rfl (eQ _ r.2.1.1 r.2.1.2.1 r.2.1.2.2 x.2.1 (m1.st hs))) rfl rfl ?_; rintro _ _ ⟨rfl, hE⟩; rw [htb]; have hs := hs.ext hE; (try simp only [zcc] at hs))) | ((apply bE 57; refine bM rfl gb (by exact aA en57 rfl (iB _ (some ⟨p, o, none⟩) r.2.1.1 n c r.2.1.2.1 r.2.1.2.2 N x.2.1 (h.st hs) (m1.st hs))) rfl rfl ?_; rintro _ _ ⟨rfl, hE⟩; rw [hf]; have hs := hs.ext hE; (try simp only [zcc] at hs))) | ((apply bE 167; refine bM rfl gb (by exact aA aBj rfl (iY _ (some ⟨p, o, none⟩) r.2.2.1.1 n c r.2.2.1.2.1 r.2.2.1.2.2 N k x.2.2.1 true (h.st hs) hlt hz (m2.st hs))) rfl rfl ?_; rintro _ _ ⟨rfl, hE⟩; rw [hsp]; have hs := hs.ext hE; (try simp only [zcc] at hs))) | ((apply bE 167; refine bM rfl gb (by exact aA aBj rfl (iY _ (some ⟨p, o, none⟩) r.2.2.2.1 n c r.2.2.2.2.1 r.2.2.2.2.2 N k x.2.2.2 false (h.st hs) hlt hz (m3.st hs))) rfl rfl ?_; rintro _ _ ⟨rfl, hE⟩; rw [hsl]; have hs := hs.ext hE; (try simp only [zcc] at hs))) | (apply aH) | ((first | (apply aC) | (apply bA; exact rfl; exact gb)); (first | (apply aT; exact aO (i := k) (hr.st hs) hrx rfl rfl aI) | exact zop); first | (exact rfl; exact rfl) | exact rfl) | (apply aQ) | (apply aB) | (apply aN) | (apply aV) | (apply aF (t := 5); refine JL_o (by apply aR; exact aJ hs) rfl rfl ?_; rintro _ _ ⟨b5, rfl, hb5, hs, hE⟩) | (apply aU; refine JL_u (by apply aP; exact aK hs rfl rfl rfl) rfl ?_; rintro _ _ ⟨hs, hF⟩) | (apply aG; first | refine aS rfl ob ?_ | refine bB rfl gb ?_ | refine bD rfl gb ?_))
        refine aM Tryz.func94 rfl (.tmp rfl .nil) ⟨rfl, hs.frm.ext⟩
      | true =>
        repeat' (first | ((apply aL 26; refine JL_o (by exact aA en26 rfl (eQ _ r.2.1.1 r.2.1.2.1 r.2.1.2.2 x.2.1 (m1.st hs))) rfl rfl ?_; rintro _ _ ⟨rfl, hE⟩; rw [htb]; have hs := hs.ext hE; (try simp only [zcc] at hs))) | ((apply bE 57; refine bM rfl gb (by exact aA en57 rfl (iB _ (some ⟨p, o, none⟩) r.2.1.1 n c r.2.1.2.1 r.2.1.2.2 N x.2.1 (h.st hs) (m1.st hs))) rfl rfl ?_; rintro _ _ ⟨rfl, hE⟩; rw [hf]; have hs := hs.ext hE; (try simp only [zcc] at hs))) | ((apply bE 167; refine bM rfl gb (by exact aA aBj rfl (iY _ (some ⟨p, o, none⟩) r.2.2.1.1 n c r.2.2.1.2.1 r.2.2.1.2.2 N k x.2.2.1 true (h.st hs) hlt hz (m2.st hs))) rfl rfl ?_; rintro _ _ ⟨rfl, hE⟩; rw [hsp]; have hs := hs.ext hE; (try simp only [zcc] at hs))) | ((apply bE 167; refine bM rfl gb (by exact aA aBj rfl (iY _ (some ⟨p, o, none⟩) r.2.2.2.1 n c r.2.2.2.2.1 r.2.2.2.2.2 N k x.2.2.2 false (h.st hs) hlt hz (m3.st hs))) rfl rfl ?_; rintro _ _ ⟨rfl, hE⟩; rw [hsl]; have hs := hs.ext hE; (try simp only [zcc] at hs))) | (apply aH) | ((first | (apply aC) | (apply bA; exact rfl; exact gb)); (first | (apply aT; exact aO (i := k) (hr.st hs) hrx rfl rfl aI) | exact zop); first | (exact rfl; exact rfl) | exact rfl) | (apply aQ) | (apply aB) | (apply aN) | (apply aW) | (apply aV) | (apply aF (t := 5); refine JL_o (by apply aR; exact aJ hs) rfl rfl ?_; rintro _ _ ⟨b5, rfl, hb5, hs, hE⟩) | (apply aU; refine JL_u (by apply aP; exact aK hs rfl rfl rfl) rfl ?_; rintro _ _ ⟨hs, hF⟩) | (apply aG; first | refine aS rfl ob ?_ | refine bD rfl gb ?_))
        refine ih (k + 1) _ _ ⟨hs.sel [] (by decide), hlt, fun j hj => ?_⟩ (by omega) (by rw [hmu]; repeat' (first | exact trivial | exact rfl | apply And.intro))
        by_cases e : j = k
        · rw [e, hnb]; rfl
        · exact hall j (by omega)
  · have hkn : k = n := by omega
    subst hkn
    rw [List.take_of_length_le (by omega)] at *
    have hall2 : (List.range N.length).all (nZ N) = true := List.all_eq_true.2 fun j hj => hall j (by have := List.mem_range.1 hj; omega)
    have hres : jY N = decide ((dX N : Int) ≤ 4000) := by
      unfold jY
      rw [hhd, hall2, Bool.true_and, Bool.true_and, decide_eq_decide]
      omega
    rw [hres]
    repeat' (first | (apply aH) | ((apply aC); exact zop; first | (exact rfl; exact rfl) | exact rfl) | (apply aQ) | (apply aB) | (apply bG; refine bP rfl ?_) | (apply aG; refine aZ rfl ob ?_))
    refine aM Tryz.func94 rfl (.tmp rfl .nil) ⟨rfl, hs.frm.ext⟩
end Go.Eng
end
section
namespace Go.Eng
open Go.Proofs
set_option linter.unusedSimpArgs false
set_option linter.unusedVariables false
abbrev z0 : RS := (none, 0, 0)
abbrev r00 : RNd := (false, z0, z0, z0)
abbrev rNew (q : RS) : RNd := (true, q, z0, z0)
theorem fE {α : Type} (d : Ty α) (R : Nat → Prop) (w : World) : Sl d R w none 0 0 [] := ⟨Nat.le_refl _, by unfold maxLen; omega, fun _ => rfl, ⟨rfl, fun _ => rfl, fun h => absurd h (by omega), (fun b o h => by cases h), (fun i x h => by simp at h)⟩⟩
theorem Sl.to {α : Type} {d : Ty α} {R : Nat → Prop} {w : World} {a : Option Addr} {n c : Nat} {xs ys : List α} (e : xs = ys) (h : Sl d R w a n c xs) : Sl d R w a n c ys := e ▸ h
theorem rel_r00 (R : Nat → Prop) (w : World) : mNode.rel R w r00 n0 := ⟨rfl, fE _ _ _, fE _ _ _, fE _ _ _⟩
theorem aAe {R : Nat → Prop} {w : World} {a : Option Addr} {n c : Nat} {t : List Int} (h : Sl dId R w a n c t) : mNode.rel R w (rNew (a, n, c)) (newN t) := ⟨rfl, h, fE _ _ _, fE _ _ _⟩
theorem mN (rs : List RNd) (k : Nat) (r : RNd) (hk : k < rs.length) : bR (encL cNd rs) (k * 4) (cNd r) = encL cNd (rs.set k r) := (iS (d := dRNd) rs k r hk).symm
theorem slNd {w0 w : World} {F : Nat → Prop} {L : List HP} {a : Option Addr} {n c : Nat} {rs : List RNd} {N : List NM} (hs : St w0 F w L) (h1 : TabN a n c rs ∈ L) (hm : MeanV mNode All w rs N) : Sl eD All w a n c N :=
  Sl.unraw (D := gD) ((RowV.slF (d := dRNd) (hs.all _ h1) (by decide) (fun _ _ => ⟨trivial, trivial, trivial, trivial⟩)).weak (fun _ _ => trivial)) hm
attribute [local irreducible] Hold J JL JD JX JXat OpR OpG Ret RetV Is Blk Row
set_option maxRecDepth 100000
set_option maxHeartbeats 2000000
theorem gA (w : World) (a a2 : Option Addr) (n c n2 c2 : Nat) (N : List NM) (E : List Ent) (h : Sl eD All w a n c N) (hE0 : Sl dEnt All w a2 n2 c2 E) (hn : n ≤ 1000000) (hn2 : n2 ≤ 1048576) (hz : szN N) :
    Ret Tryz.prog 32 #[.agg #[.slice a n c, .slice a2 n2 c2]] w fun v w' => v = .bool (dP N E) ∧ Ext w w' := by
  refine bI (l := [_]) Tryz.func32 rfl Tryz.ntmps32 (by simp) ?_
  have hs := St.init w
  have hl := h.len
  have hl2 := hE0.len
  obtain ⟨rs, hr, hm⟩ := Sl.raw (D := gD) h
  obtain ⟨re, hre, hme⟩ := Sl.raw (D := fB) hE0
  have hlr := hr.len
  have hlre := hre.len
  have hEo := mC hE0
  have hreo : ∀ r ∈ re, okE r := (hre.srcF).2.2
  rw [← vI]
  obtain ⟨b1, hnb⟩ : ∃ b, jY N = b := ⟨_, rfl⟩
  obtain ⟨b2, hcb⟩ : ∃ b, cH E = b := ⟨_, rfl⟩
  have hR : wM N E = (b1 && (b2 && decide (allM E = dZ N))) := by unfold wM; rw [hnb, hcb]
  rw [hR]
  have hrm : qN E = b2 := by rw [oV, hcb]
  cases b1 with
  | false =>
    repeat' (first | ((apply ax_c; apply gG 94; exact rfl; (intro W X hN hs; exact aA en94 rfl (nC _ a n c N (h.st hs) hz)); (rintro _ _ _ _ ⟨rfl, hE⟩; first | exact hE | exact Fresh.ext hf); rintro W X _ _ hN hs ⟨rfl, hE⟩; rw [hnb]; have hs := hs.ext hE; (try simp only [zcc] at hs); refine JX.at hs ?_)) | (apply aH) | ((first | (apply aC) | (apply JX_f; exact rfl; intro W X hs)); exact zop; first | (exact rfl; exact rfl) | exact rfl) | (apply aQ) | (apply aB) | (apply aF (t := 1); refine JL_o (by apply bN; exact bC hs rfl) rfl rfl ?_; rintro _ _ ⟨b1, rfl, hb1, hs, hE⟩) | (apply bV; (refine bQ (id := 1) [0, 1, 3, 7, 15, 31, 63, 127, 255, 511, 1023, 2047, 511, 4607, 16383, 32767, 65535, 131071] [(0, 0), (1, 0), (2, 1), (3, 0), (4, 0), (5, 0), (6, 1), (7, 0), (8, 0), (9, 0), (10, 0), (12, 0), (13, 0), (11, 1), (14, 1), (15, 1), (16, 0), (17, 0)] [] hs cQ (by kernel_rfl) (by kernel_rfl) (by kernel_rfl) (by kernel_rfl) (by kernel_rfl) ?_)) | (refine bU (fun W hs => ?_)) | (refine cM rfl rfl gb rfl ?_) | (refine cU rfl rfl gb rfl ?_) | (apply cB))
    refine aM Tryz.func32 rfl (.tmp rfl .nil) ⟨rfl, hs.frm.ext⟩
  | true =>
  cases b2 with
  | false =>
    repeat' (first | ((apply ax_c; apply gG 94; exact rfl; (intro W X hN hs; exact aA en94 rfl (nC _ a n c N (h.st hs) hz)); (rintro _ _ _ _ ⟨rfl, hE⟩; first | exact hE | exact Fresh.ext hf); rintro W X _ _ hN hs ⟨rfl, hE⟩; rw [hnb]; have hs := hs.ext hE; (try simp only [zcc] at hs); refine JX.at hs ?_)) | ((apply ax_c; apply bY 95; exact rfl; exact rfl; exact gb; (intro W X hN hs; exact aA en95 rfl (oC _ a2 n2 c2 E (hE0.st hs) hn2)); (rintro _ _ _ _ ⟨rfl, hE⟩; first | exact hE | exact Fresh.ext hf); rintro W X _ _ hN hs ⟨rfl, hE⟩; rw [hrm]; have hs := hs.ext hE; (try simp only [zcc] at hs); refine JX.at hs ?_)) | (apply aH) | ((first | (apply aC) | (apply JX_f; exact rfl; intro W X hs) | (apply dB; exact rfl; exact rfl; exact gb; intro W X hs)); exact zop; first | (exact rfl; exact rfl) | exact rfl) | (apply aQ) | (apply aB) | (apply aF (t := 1); refine JL_o (by apply bN; exact bC hs rfl) rfl rfl ?_; rintro _ _ ⟨b1, rfl, hb1, hs, hE⟩) | (apply bV; (refine bQ (id := 1) [0, 1, 3, 7, 15, 31, 63, 127, 255, 511, 1023, 2047, 511, 4607, 16383, 32767, 65535, 131071] [(0, 0), (1, 0), (2, 1), (3, 0), (4, 0), (5, 0), (6, 1), (7, 0), (8, 0), (9, 0), (10, 0), (12, 0), (13, 0), (11, 1), (14, 1), (15, 1), (16, 0), (17, 0)] [] hs cQ (by kernel_rfl) (by kernel_rfl) (by kernel_rfl) (by kernel_rfl) (by kernel_rfl) ?_)) | (refine bU (fun W hs => ?_)) | (refine cM rfl rfl gb rfl ?_) | (refine cU rfl rfl gb rfl ?_) | (apply cB))
    refine aM Tryz.func32 rfl (.tmp rfl .nil) ⟨rfl, hs.frm.ext⟩
  | true =>
    have hml : dX N ≤ 1000000 := by unfold dX; exact Nat.le_trans (List.length_filter_le _ _) (by omega)
    have hal : (allM E).length ≤ 1048576 := by rw [(eF E).length_eq]; exact Nat.le_trans (List.length_filter_le _ _) (by omega)
    repeat' (first | ((apply ax_c; apply gG 94; exact rfl; (intro W X hN hs; exact aA en94 rfl (nC _ a n c N (h.st hs) hz)); (rintro _ _ _ _ ⟨rfl, hE⟩; first | exact hE | exact Fresh.ext hf); rintro W X _ _ hN hs ⟨rfl, hE⟩; rw [hnb]; have hs := hs.ext hE; (try simp only [zcc] at hs); refine JX.at hs ?_)) | ((apply ax_c; apply bY 95; exact rfl; exact rfl; exact gb; (intro W X hN hs; exact aA en95 rfl (oC _ a2 n2 c2 E (hE0.st hs) hn2)); (rintro _ _ _ _ ⟨rfl, hE⟩; first | exact hE | exact Fresh.ext hf); rintro W X _ _ hN hs ⟨rfl, hE⟩; rw [hrm]; have hs := hs.ext hE; (try simp only [zcc] at hs); refine JX.at hs ?_)) | ((apply ax_c; apply bY 97; exact rfl; exact rfl; exact gb; (intro W X hN hs; exact aA en97 rfl (all7_r _ a2 n2 c2 re E (hre.st hs) (hme.st hs) hn2)); (rintro _ _ _ _ ⟨zs7, a7, c7, hz7, hp7, rfl, hf⟩; first | exact hE | exact Fresh.ext hf); rintro W X _ _ hN hs ⟨zs7, a7, c7, hz7, hp7, rfl, hf⟩; have hs := hs.fresh hf; (try simp only [zcc] at hs); refine JX.at hs ?_)) | ((apply ax_c; apply bY 98; exact rfl; exact rfl; exact gb; (intro W X hN hs; exact aA en98 rfl (oK _ a n c rs N (hr.st hs) (hm.st hs) hn)); (rintro _ _ _ _ ⟨zs8, a8, c8, ⟨hz8, hp8⟩, rfl, hf⟩; first | exact hE | exact Fresh.ext hf); rintro W X _ _ hN hs ⟨zs8, a8, c8, ⟨hz8, hp8⟩, rfl, hf⟩; have hs := hs.fresh hf; (try simp only [zcc] at hs); refine JX.at hs ?_)) | ((apply ax_c; apply bY 96; exact rfl; exact rfl; exact gb; (intro W X hN hs; exact aA en96 rfl (aAb _ a7 a8 (allM E).length c7 (dX N) c8 (allM E) (dZ N) (Sl.to hz7 (Sl.unraw (D := fB) (tM (hs.row a7 (allM E).length c7) (zJ hp7 hreo)) (zK (hme.st hs) hp7))) (Sl.to hz8 (Sl.unraw (D := fB) (tM (hs.row a8 (dX N) c8) (sJ hp8 (by omega))) (nF hp8 (hm.st hs)))) hal)); (rintro _ _ _ _ ⟨rfl, hE⟩; first | exact hE | exact Fresh.ext hf); rintro W X _ _ hN hs ⟨rfl, hE⟩; have hs := hs.ext hE; (try simp only [zcc] at hs); refine JX.at hs ?_)) | (apply aH) | ((first | (apply aC) | (apply JX_f; exact rfl; intro W X hs) | (apply dB; exact rfl; exact rfl; exact gb; intro W X hs)); exact zop; first | (exact rfl; exact rfl) | exact rfl) | (apply aQ) | (apply aB) | (apply aF (t := 1); refine JL_o (by apply bN; exact bC hs rfl) rfl rfl ?_; rintro _ _ ⟨b1, rfl, hb1, hs, hE⟩) | (apply bV; (refine bQ (id := 1) [0, 1, 3, 7, 15, 31, 63, 127, 255, 511, 1023, 2047, 511, 4607, 16383, 32767, 65535, 131071] [(0, 0), (1, 0), (2, 1), (3, 0), (4, 0), (5, 0), (6, 1), (7, 0), (8, 0), (9, 0), (10, 0), (12, 0), (13, 0), (11, 1), (14, 1), (15, 1), (16, 0), (17, 0)] [] hs cQ (by kernel_rfl) (by kernel_rfl) (by kernel_rfl) (by kernel_rfl) (by kernel_rfl) ?_)) | (refine bU (fun W hs => ?_)) | (apply cB))
    refine aM Tryz.func32 rfl (.tmp rfl .nil) ⟨rfl, hs.frm.ext⟩
theorem nB (w : World) (a a2 : Option Addr) (n c n2 c2 : Nat) (N : List NM) (t : List Int) (h : Sl eD All w a n c N) (ht : Sl dId All w a2 n2 c2 t) (hn : n ≤ 900000) :
    Ret Tryz.prog 34 #[.slice a n c, .slice a2 n2 c2] w fun v w' => ∃ (a' : Option Addr) (m c' : Nat), v = .tuple #[.slice a' m c', .int .i64 (ofn N t), .int .i64 (ofC N t)] ∧ m ≤ n + 1 ∧ Ext w w' ∧ Sl eD All w' a' m c' (ofL N t) := by
  refine bI (l := [_, _]) Tryz.func34 rfl Tryz.ntmps34 (by simp) ?_
  have hs := St.init w
  have hl := h.len
  obtain ⟨rs, hr, hm⟩ := Sl.raw (D := gD) h
  have hlr := hr.len
  obtain ⟨hsrc, hpl, _⟩ := hr.srcF
  obtain ⟨tb, htb⟩ : ∃ b, dF t = b := ⟨_, rfl⟩
  obtain ⟨f1, hf1⟩ : ∃ f, eX N t = f := ⟨_, rfl⟩
  cases tb with
  | false =>
    have e1 : ofC N t = 130 := by unfold ofC; rw [htb]; rfl
    have e2 : ofL N t = [] := by unfold ofL; rw [e1]; rfl
    have e3 : ofn N t = 0 := by unfold ofn; rw [e1]; rfl
    rw [e1, e2, e3]
    repeat' (first | ((apply aL 26; refine JL_o (by exact aA en26 rfl (eQ _ a2 n2 c2 t (ht.st hs))) rfl rfl ?_; rintro _ _ ⟨rfl, hE⟩; rw [htb]; have hs := hs.ext hE; (try simp only [zcc] at hs))) | (apply aH) | ((apply aC); exact zop; first | (exact rfl; exact rfl) | exact rfl) | (apply aQ) | (apply aB) | (apply aG; refine bB rfl gb ?_))
    refine aM Tryz.func34 rfl (.tmp rfl (.tmp rfl (.tmp rfl .nil))) ⟨none, 0, 0, rfl, Nat.zero_le _, hs.frm.ext, fE _ _ _⟩
  | true =>
  by_cases hf0 : f1 = 0
  rotate_left
  · have hfne : eX N t ≠ 0 := by omega
    have e1 : ofC N t = 0 := by unfold ofC; rw [htb, if_pos rfl, if_pos hfne]
    have e2 : ofL N t = N := by unfold ofL; rw [if_pos e1, if_pos hfne]
    have e3 : ofn N t = f1 := by unfold ofn; rw [if_pos e1, if_pos hfne, hf1]
    have hfp : (f1 : Int) > 0 := by omega
    rw [e1, e2, e3]
    repeat' (first | ((apply aL 26; refine JL_o (by exact aA en26 rfl (eQ _ a2 n2 c2 t (ht.st hs))) rfl rfl ?_; rintro _ _ ⟨rfl, hE⟩; rw [htb]; have hs := hs.ext hE; (try simp only [zcc] at hs))) | ((apply aL 57; refine JL_o (by exact aA en57 rfl (iB _ a a2 n c n2 c2 N t (h.st hs) (ht.st hs))) rfl rfl ?_; rintro _ _ ⟨rfl, hE⟩; rw [hf1]; have hs := hs.ext hE; (try simp only [zcc] at hs))) | (apply aH) | ((apply aC); exact zop; first | (exact rfl; exact rfl) | exact rfl) | (apply aQ) | (apply aB) | (apply aV) | (apply aG; first | refine aS rfl ob ?_ | refine bD rfl gb ?_))
    refine aM Tryz.func34 rfl (.tmp rfl (.tmp rfl (.tmp rfl .nil))) ⟨a, n, c, rfl, by omega, hs.frm.ext, h.st hs⟩
  have hfz : eX N t = 0 := by omega
  have hfn : ¬ (f1 : Int) > 0 := by omega
  by_cases hmu : dX N = 4000
  · have e1 : ofC N t = 6 := by unfold ofC; rw [htb, if_pos rfl, if_neg (fun e => e hfz), if_pos hmu]
    have e2 : ofL N t = [] := by unfold ofL; rw [e1]; rfl
    have e3 : ofn N t = 0 := by unfold ofn; rw [e1]; rfl
    have hmi : ((dX N : Nat) : Int) = 4000 := by omega
    rw [e1, e2, e3]
    repeat' (first | ((apply aL 26; refine JL_o (by exact aA en26 rfl (eQ _ a2 n2 c2 t (ht.st hs))) rfl rfl ?_; rintro _ _ ⟨rfl, hE⟩; rw [htb]; have hs := hs.ext hE; (try simp only [zcc] at hs))) | ((apply aL 57; refine JL_o (by exact aA en57 rfl (iB _ a a2 n c n2 c2 N t (h.st hs) (ht.st hs))) rfl rfl ?_; rintro _ _ ⟨rfl, hE⟩; rw [hf1]; have hs := hs.ext hE; (try simp only [zcc] at hs))) | ((apply aL 98; refine JL_o (by exact aA en98 rfl (oK _ a n c rs N (hr.st hs) (hm.st hs) (by omega))) rfl rfl ?_; rintro _ _ ⟨zs8, a8, c8, ⟨hz8, hp8⟩, rfl, hf⟩; have hs := hs.fresh hf; (try simp only [zcc] at hs))) | (apply aH) | ((apply aC); exact zop; first | (exact rfl; exact rfl) | exact rfl) | (apply aQ) | (apply aB) | (apply aV) | (apply aG; first | refine aS rfl ob ?_ | refine aZ rfl ob ?_ | refine bD rfl gb ?_))
    refine aM Tryz.func34 rfl (.tmp rfl (.tmp rfl (.tmp rfl .nil))) ⟨none, 0, 0, rfl, Nat.zero_le _, hs.frm.ext, fE _ _ _⟩
  have hmi : ¬ ((dX N : Nat) : Int) = 4000 := by omega
  have e1 : ofC N t = 0 := by unfold ofC; rw [htb, if_pos rfl, if_neg (fun e => e hfz), if_neg hmu]
  have e2 : ofL N t = setN N (eH N) (newN t) := by unfold ofL; rw [if_pos e1, if_neg (fun e => e hfz)]
  have e3 : ofn N t = eH N + 1 := by unfold ofn; rw [if_pos e1, if_neg (fun e => e hfz)]
  rw [e1, e2, e3]
  repeat' (first | ((apply aL 26; refine JL_o (by exact aA en26 rfl (eQ _ a2 n2 c2 t (ht.st hs))) rfl rfl ?_; rintro _ _ ⟨rfl, hE⟩; rw [htb]; have hs := hs.ext hE; (try simp only [zcc] at hs))) | ((apply aL 57; refine JL_o (by exact aA en57 rfl (iB _ a a2 n c n2 c2 N t (h.st hs) (ht.st hs))) rfl rfl ?_; rintro _ _ ⟨rfl, hE⟩; rw [hf1]; have hs := hs.ext hE; (try simp only [zcc] at hs))) | ((apply aL 98; refine JL_o (by exact aA en98 rfl (oK _ a n c rs N (hr.st hs) (hm.st hs) (by omega))) rfl rfl ?_; rintro _ _ ⟨zs8, a8, c8, ⟨hz8, hp8⟩, rfl, hf⟩; have hs := hs.fresh hf; (try simp only [zcc] at hs))) | ((apply aF (t := 24); refine JL_o (by apply bJ; exact bF hs rfl (by omega) rfl) rfl rfl ?_; rintro _ _ ⟨b, rfl, hb, hs, hE⟩; have hs := hs.toRow 0 0 0 4 (xs := []) (Nat.le_refl _) (by unfold maxLen; omega) (by simp) rfl)) | ((apply aF (t := 26); refine JL_o (by apply bW; exact cF hs rfl rfl (Src.st hsrc hs) hpl rfl (by omega) (by unfold maxLen; omega)) rfl rfl ?_; rintro _ _ ⟨a4, c4, rfl, hs, hF, hnil⟩; rw [Nat.zero_add] at hs ⊢; rw [List.nil_append] at hs)) | (apply aH) | ((apply aC); exact zop; first | (exact rfl; exact rfl) | exact rfl) | (apply aQ) | (apply aB) | (apply aN) | (apply aV) | (apply aG; first | refine aZ rfl ob ?_ | refine bD rfl gb ?_))
  refine bT (α := Nat) [(1, _), (8, _)] (fun k => [(9, .int .i64 ((k : Int) + 1))]) (fun k w' => St w NoF w' [TabN a4 n c4 rs] ∧ k ≤ n ∧ ∀ i x, N[i]? = some x → i < k → x.1 = true) (fun k => n - k) 0 ⟨hs.sel [0] (by decide), Nat.zero_le _, fun i x _ hi => absurd hi (Nat.not_lt_zero _)⟩ zss ?_
  rintro k w2 ⟨hs1, hk, hall⟩ ih
  have hs : St w NoF w2 [TabN a4 n c4 rs] := hs1
  have hki : inK .i64 ((k : Int) + 1) := by unfold inK; simp only [IntKind.min, IntKind.max, IntKind.bits, IntKind.signed]; omega
  by_cases hgo : isM N ((k : Int) + 1) = true
  · obtain ⟨j, y, hj, hy, hyu⟩ := isM_true.1 hgo
    have hjk : j = k := by omega
    subst hjk
    have hjl := (List.getElem?_eq_some_iff.1 hy).1
    repeat' (first | ((apply aL 56; refine JL_o (by exact aA en56 rfl (dT _ a4 n c4 N ((j : Int) + 1) (slNd hs zmm (hm.st hs)) hki)) rfl rfl ?_; rintro _ _ ⟨rfl, hE⟩; rw [hgo]; have hs := hs.ext hE; (try simp only [zcc] at hs))) | (apply aH) | ((apply aC); exact zop; first | (exact rfl; exact rfl) | exact rfl) | (apply aQ) | (apply aB) | (apply aN) | (apply aW) | (apply aV) | (apply aG; refine bB rfl gb ?_))
    refine ih (j + 1) _ _ ⟨hs, by omega, fun i x hx hi => ?_⟩ (by omega) zss
    by_cases e : i = j
    · subst e; rw [hy] at hx; cases hx; exact hyu
    · exact hall i x hx (by omega)
  · have hgo : isM N ((k : Int) + 1) = false := by simpa using hgo
    have hfk : eH N = k := qU (by omega) hall (fun x hx => by
      cases hxu : x.1 with
      | false => rfl
      | true => rw [isM_true.2 ⟨k, x, rfl, hx, hxu⟩] at hgo; cases hgo)
    rw [hfk]
    have ik : ((k : Int) + 1 - 1).toNat = k := by omega
    by_cases hkn : k = n
    · have hgt : (k : Int) + 1 > n := by omega
      subst hkn
      have hset : bR (encL cNd (rs ++ [r00])) (((k : Int) + 1 - 1).toNat * 4) (cNd (rNew (a2, n2, c2))) = encL cNd (rs ++ [rNew (a2, n2, c2)]) := by
        rw [ik, mN _ _ _ (by rw [List.length_append, hlr]; simp)]
        congr 1
        rw [List.set_append_right _ _ (by omega), hlr, Nat.sub_self]; rfl
      have hbnd : 0 ≤ (k : Int) + 1 - 1 ∧ (k : Int) + 1 - 1 < (k + 1 : Nat) := by omega
      repeat' (first | ((apply aL 56; refine JL_o (by exact aA en56 rfl (dT _ a4 k c4 N ((k : Int) + 1) (slNd hs zmm (hm.st hs)) hki)) rfl rfl ?_; rintro _ _ ⟨rfl, hE⟩; rw [hgo]; have hs := hs.ext hE; (try simp only [zcc] at hs))) | ((apply aF (t := 39); refine JL_o (by apply bW; exact cF (xs := encL cNd rs) (news := cNd r00) hs rfl rfl (lZ (r := r00) (hs.blk (b := b38))) cJ rfl (by omega) (by unfold maxLen; omega)) rfl rfl ?_; rintro _ _ ⟨a6, c6, rfl, hs, hF, hnil⟩; rw [kS rs r00] at hs; obtain ⟨b, o, rfl⟩ := (hs.row a6 (k + 1) c6).some (by omega))) | ((apply aU; refine JL_u (by apply aP; exact cD (b := b) (o := o) (off := ((k : Int) + 1 - 1).toNat * 4) (n := k + 1) (c := c6) (vs := cNd (rNew (a2, n2, c2))) hs rfl rfl rfl rfl (by simp [Value.oneCell']) (by show ((k : Int) + 1 - 1).toNat * 4 + 4 ≤ (k + 1) * 4; omega)) rfl ?_; rintro _ _ ⟨hs, hF⟩; rw [hset] at hs)) | (apply aH) | ((apply aC); exact zop; first | (exact rfl; exact rfl) | exact rfl) | (apply aQ) | (apply aB) | (apply bG; refine bP rfl ?_) | (apply aF (t := 38); refine JL_o (by apply bJ; exact bF hs rfl (by omega) rfl) rfl rfl ?_; rintro _ _ ⟨b38, rfl, hb38, hs, hE⟩) | (apply aG; first | refine aS rfl ob ?_ | refine bD rfl gb ?_))
      have hsn : setN N k (newN t) = N ++ [newN t] := by unfold setN; rw [if_neg (by omega)]
      rw [hsn]
      have hs := hs.sel [1] (by decide)
      refine aM Tryz.func34 rfl (.tmp rfl (.tmp rfl (.tmp rfl .nil))) ⟨some ⟨b, o, none⟩, k + 1, c6, rfl, Nat.le_refl _, hs.frm.ext, slNd hs (List.Mem.head _) ((hm.st hs).app (MeanV.one (aAe (ht.st hs))))⟩
    · have hgt : ¬ (k : Int) + 1 > n := by omega
      have hset : bR (encL cNd rs) (((k : Int) + 1 - 1).toNat * 4) (cNd (rNew (a2, n2, c2))) = encL cNd (rs.set k (rNew (a2, n2, c2))) := by rw [ik]; exact mN rs k _ (by omega)
      have hbnd : 0 ≤ (k : Int) + 1 - 1 ∧ (k : Int) + 1 - 1 < n := by omega
      obtain ⟨b, o, rfl⟩ := (hs.row a4 n c4).some (by omega)
      repeat' (first | ((apply aL 56; refine JL_o (by exact aA en56 rfl (dT _ (some ⟨b, o, none⟩) n c4 N ((k : Int) + 1) (slNd hs zmm (hm.st hs)) hki)) rfl rfl ?_; rintro _ _ ⟨rfl, hE⟩; rw [hgo]; have hs := hs.ext hE; (try simp only [zcc] at hs))) | ((apply aU; refine JL_u (by apply aP; exact cD (b := b) (o := o) (off := ((k : Int) + 1 - 1).toNat * 4) (n := n) (c := c4) (vs := cNd (rNew (a2, n2, c2))) hs rfl rfl rfl rfl (by simp [Value.oneCell']) (by show ((k : Int) + 1 - 1).toNat * 4 + 4 ≤ n * 4; omega)) rfl ?_; rintro _ _ ⟨hs, hF⟩; rw [hset] at hs)) | (apply aH) | ((apply aC); exact zop; first | (exact rfl; exact rfl) | exact rfl) | (apply aQ) | (apply aB) | (apply bG; refine bP rfl ?_) | (apply aV) | (apply aG; first | refine aZ rfl ob ?_ | refine bD rfl gb ?_))
      have hsn : setN N k (newN t) = N.set k (newN t) := by unfold setN; rw [if_pos (by omega)]
      rw [hsn]
      have hs := hs.sel [0] (by decide)
      refine aM Tryz.func34 rfl (.tmp rfl (.tmp rfl (.tmp rfl .nil))) ⟨some ⟨b, o, none⟩, n, c4, rfl, by omega, hs.frm.ext, slNd hs (List.Mem.head _) ((hm.st hs).set k (aAe (ht.st hs)))⟩
end Go.Eng
end
section
namespace Go.Eng
open Go.Proofs
set_option linter.unusedSimpArgs false
set_option linter.unusedVariables false
theorem yG {qs : List QN} {k : Nat} {q : QN} (h : qs[k]? = some q) : qs = qs.take k ++ q :: qs.drop (k + 1) := by
  have hk := (List.getElem?_eq_some_iff.1 h).1
  conv => lhs; rw [← List.take_append_drop k qs, List.drop_eq_getElem_cons hk, (List.getElem?_eq_some_iff.1 h).2]
theorem xV {qs : List QN} {k : Nat} (qn : QN) (hk : k < qs.length) : qs.set k qn = qs.take k ++ qn :: qs.drop (k + 1) := by
  conv => lhs; rw [← List.take_append_drop k qs, List.drop_eq_getElem_cons hk]
  have hl : (qs.take k).length = k := by rw [List.length_take]; omega
  rw [List.set_append_right _ _ (by omega), hl, Nat.sub_self, List.set_cons_zero]
section
variable {w0 w : World} {F : Nat → Prop} {L : List HP}
theorem St.takeN {qs : List QN} {k : Nat} {q : QN} (hq : qs[k]? = some q) (h : St w0 F w (OwnN qs :: L)) : St w0 F w (rowN q :: OwnN (qs.take k ++ qs.drop (k + 1)) :: L) := by
  rw [yG hq] at h
  have := St.outN h
  exact this
theorem St.putN {qs : List QN} {k : Nat} {qn : QN} (hk : k < qs.length) (h : St w0 F w (rowN qn :: OwnN (qs.take k ++ qs.drop (k + 1)) :: L)) : St w0 F w (OwnN (qs.set k qn) :: L) := by
  rw [xV qn hk]
  exact St.inN h
theorem St.replN {qs : List QN} {k : Nat} {q qn : QN} (hq : qs[k]? = some q) (h : St w0 F w (rowN qn :: OwnN qs :: L)) : St w0 F w (OwnN (qs.set k qn) :: L) := by
  have h1 : St w0 F w (OwnN qs :: rowN qn :: L) := h.perm (.swap _ _ _)
  have h2 := St.takeN hq h1
  have h3 : St w0 F w (rowN qn :: OwnN (qs.take k ++ qs.drop (k + 1)) :: L) := (h2.sub (List.sublist_cons_self _ _)).perm (.swap _ _ _)
  exact St.putN (List.getElem?_eq_some_iff.1 hq).1 h3
theorem St.zeroN (b : Bool) (h : St w0 F w L) : St w0 F w (rowN (b, (z0, []), (z0, []), (z0, [])) :: L) := by
  have h1 := ((h.nilRow 93 2).nilRow 93 2).nilRow 29 1
  exact St.packN (q := (b, (z0, []), (z0, []), (z0, []))) h1
end
theorem wP (b : Bool) : okN (b, (z0, []), (z0, []), (z0, [])) := ⟨⟨rfl, fun x h => by cases h⟩, ⟨rfl, fun x h => by cases h⟩, ⟨rfl, fun x h => by cases h⟩⟩
def GOut (w w' : World) (N' : List NM) (a' : Option Addr) (m' c' : Nat) (a2' : Option Addr) (m2 c2 : Nat) : Prop :=
  ∃ (qs : List QN) (es : List Ent) (rs' : List REnt), (qs.map fO = N' ∧ ∀ q ∈ qs, okN q) ∧ (cH es = true ∧ allM es = dZ N') ∧ (N'.length = m' ∧ es.length = m2 ∧ m2 ≤ 1048576) ∧ Fresh w w' [TabN a' m' c' (qs.map rawN), OwnN qs, bZ a2' m2 c2 rs', Own rs' es]
theorem xZ {N : List NM} {E : List Ent} (h : dP N E = true) {t : List Int} (ht : dF t = true) (hf : eX N t = 0) {v : Int} (hv : 0 ≤ v) : putE E t v = if dX N = 4000 then 6 else 0 := by
  obtain ⟨g, hc, hA⟩ := check_iff.1 h
  have h1 := qY h t
  rw [hf, decide_eq_false (fun e => e rfl)] at h1
  have hp : ¬ 0 ≤ eU E t := fun hp => by
    unfold kC at h1
    rw [if_pos hc, if_neg (by omega)] at h1
    have := congrArg Prod.snd h1
    cases this
  unfold putE
  rw [if_pos hc, if_pos ht, if_neg (by omega), if_neg hp, hA, fV]
theorem wN {N : List NM} {E es : List Ent} (h : dP N E = true) {t : List Int} (hf : eX N t = 0) (hc : cH es = true) (hp : (es.filter dI).Perm (allM E ++ [(1, t, (eH N : Int) + 1)])) : allM es = dZ (setN N (eH N) (newN t)) := by
  obtain ⟨g, hcE, hA⟩ := check_iff.1 h
  refine aB3 hc (rW g.uniq hf) fun e => ?_
  rw [hp.mem_iff, List.mem_append, List.mem_singleton, wJ, hA]
theorem jD {E : List Ent} (h : cH E = true) : LMax E := fun x hx => by have := mS h hx; omega
attribute [local irreducible] Hold J JL JD JX JXat OpR OpG Ret RetV Is Blk Row
set_option maxRecDepth 100000
set_option maxHeartbeats 2000000
theorem gof_r (w : World) (a a2 a3 : Option Addr) (n c n2 c2 n3 c3 : Nat) (N : List NM) (E : List Ent) (t : List Int) (h : Sl eD All w a n c N) (hE0 : Sl dEnt All w a2 n2 c2 E) (ht : Sl dId All w a3 n3 c3 t) (hn : n ≤ 900000) (hn2 : n2 ≤ 1048576) (hz : szN N) (hc : dP N E = true) :
    Ret Tryz.prog 99 #[.agg #[.slice a n c, .slice a2 n2 c2], .slice a3 n3 c3] w fun v w' =>
      (ofC N t ≠ 0 ∧ v = .tuple #[.agg #[.slice none 0 0, .slice none 0 0], .int .i64 0, .int .i64 (ofC N t)] ∧ Ext w w') ∨
      (ofC N t = 0 ∧ ∃ a' m' c' a2' m2 c2', v = .tuple #[.agg #[.slice a' m' c', .slice a2' m2 c2'], .int .i64 (ofn N t), .int .i64 0] ∧ m' ≤ n + 1 ∧ GOut w w' (ofL N t) a' m' c' a2' m2 c2') := by
  refine bI (l := [_, _]) Tryz.func99 rfl Tryz.ntmps99 (by simp) ?_
  have hs := St.init w
  have hl := h.len
  have hl2 := hE0.len
  have hto := jW ht
  have htl := ht.len
  obtain ⟨g, hcE, hA⟩ := check_iff.1 hc
  have hfg := qY hc t
  obtain ⟨tb, htb⟩ : ∃ b, dF t = b := ⟨_, rfl⟩
  obtain ⟨f1, hf1⟩ : ∃ f, eX N t = f := ⟨_, rfl⟩
  rw [hf1] at hfg
  cases tb with
  | false =>
    have e1 : ofC N t = 130 := by unfold ofC; rw [htb]; rfl
    rw [e1]
    repeat' (first | ((apply aL 59; refine JL_o (by exact aA en59 rfl (dC _ a3 n3 c3 t (ht.st hs))) rfl rfl ?_; rintro _ _ ⟨rfl, hE⟩; rw [htb]; have hs := hs.ext hE; (try simp only [zcc] at hs))) | (apply aH) | ((apply aC); exact zop; first | (exact rfl; exact rfl) | exact rfl) | (apply aQ) | (apply aB) | (apply aF (t := 2); refine JL_o (by apply bN; exact bC hs rfl) rfl rfl ?_; rintro _ _ ⟨b2, rfl, hb2, hs, hE⟩) | (apply aF (t := 4); refine JL_o (by apply aR; exact aJ hs) rfl rfl ?_; rintro _ _ ⟨b4, rfl, hb4, hs, hE⟩) | (apply aU; refine JL_u (by apply aP; exact aK hs rfl rfl rfl) rfl ?_; rintro _ _ ⟨hs, hF⟩) | (apply aG; refine bB rfl gb ?_))
    refine aM Tryz.func99 rfl (.agg' hs rfl rfl (.tmp rfl (.tmp rfl .nil))) (.inl ⟨by decide, rfl, hs.frm.ext⟩)
  | true =>
  by_cases hf0 : f1 = 0
  rotate_left
  · have hfne : eX N t ≠ 0 := by omega
    have e1 : ofC N t = 0 := by unfold ofC; rw [htb, if_pos rfl, if_pos hfne]
    have e2 : ofL N t = N := by unfold ofL; rw [if_pos e1, if_pos hfne]
    have e3 : ofn N t = f1 := by unfold ofn; rw [if_pos e1, if_pos hfne, hf1]
    have hfd : decide (f1 ≠ 0) = true := decide_eq_true hf0
    rw [hfd] at hfg
    rw [e1, e2, e3]
    repeat' (first | ((apply aL 59; refine JL_o (by exact aA en59 rfl (dC _ a3 n3 c3 t (ht.st hs))) rfl rfl ?_; rintro _ _ ⟨rfl, hE⟩; rw [htb]; have hs := hs.ext hE; (try simp only [zcc] at hs))) | ((apply aL 119; refine JL_o (by exact aA uF rfl (nU _ a2 n2 c2 E a3 n3 c3 t (hE0.st hs) hn2 (ht.st hs))) rfl rfl ?_; rintro _ _ ⟨rfl, hE⟩; rw [hfg]; have hs := hs.ext hE; (try simp only [zcc] at hs))) | ((apply aL 107; refine JL_o (by exact aA aBl rfl (tY _ a a2 n c n2 c2 N E (h.st hs) (hE0.st hs) (by omega) hn2 hz (jD hcE))) rfl rfl ?_; rintro _ _ ⟨qs, rs', a', a2', ⟨hqm, hqo⟩, rfl, hf⟩; have hs := hs.fresh hf; (try simp only [zcc] at hs))) | (apply aH) | ((apply aC); exact zop; first | (exact rfl; exact rfl) | exact rfl) | (apply aQ) | (apply aB) | (apply aV) | (apply aF (t := 2); refine JL_o (by apply bN; exact bC hs rfl) rfl rfl ?_; rintro _ _ ⟨b2, rfl, hb2, hs, hE⟩) | (apply aF (t := 4); refine JL_o (by apply aR; exact aJ hs) rfl rfl ?_; rintro _ _ ⟨b4, rfl, hb4, hs, hE⟩) | (apply aU; refine JL_u (by apply aP; exact aK hs rfl rfl rfl) rfl ?_; rintro _ _ ⟨hs, hF⟩) | (apply aG; first | refine bB rfl gb ?_ | refine bD rfl gb ?_))
    refine aM Tryz.func99 rfl (.agg' hs rfl rfl (.tmp rfl (.tmp rfl .nil))) (.inr ⟨rfl, a', n, n, a2', n2, n2, rfl, by omega, qs, E, rs', ⟨hqm, hqo⟩, ⟨hcE, hA⟩, ⟨hl, hl2, hn2⟩, hs.out (by simp)⟩)
  have hfz : eX N t = 0 := by omega
  have hfd : decide (f1 ≠ 0) = false := decide_eq_false (fun e => e hf0)
  rw [hfd] at hfg
  repeat' (first | ((apply aL 59; refine JL_o (by exact aA en59 rfl (dC _ a3 n3 c3 t (ht.st hs))) rfl rfl ?_; rintro _ _ ⟨rfl, hE⟩; rw [htb]; have hs := hs.ext hE; (try simp only [zcc] at hs))) | ((apply aL 119; refine JL_o (by exact aA uF rfl (nU _ a2 n2 c2 E a3 n3 c3 t (hE0.st hs) hn2 (ht.st hs))) rfl rfl ?_; rintro _ _ ⟨rfl, hE⟩; rw [hfg]; have hs := hs.ext hE; (try simp only [zcc] at hs))) | (apply aH) | ((apply aC); exact zop; first | (exact rfl; exact rfl) | exact rfl) | (apply aQ) | (apply aB) | (apply aN) | (apply aV) | (apply aF (t := 2); refine JL_o (by apply bN; exact bC hs rfl) rfl rfl ?_; rintro _ _ ⟨b2, rfl, hb2, hs, hE⟩) | (apply aF (t := 4); refine JL_o (by apply aR; exact aJ hs) rfl rfl ?_; rintro _ _ ⟨b4, rfl, hb4, hs, hE⟩) | (apply aG; refine bD rfl gb ?_))
  refine bT (α := Nat) [(1, _), (2, _), (4, _)] (fun k => [(9, .int .i64 ((k : Int) + 1))]) (fun k w' => St w NoF w' [Blk b4 (.cells #[.slice none 0 0, .slice none 0 0] 57 (0, 0)), Blk b2 (.cells #[.slice a n c, .slice a2 n2 c2] 57 (0, 0))] ∧ k ≤ n ∧ ∀ (i : Nat) (x : NM), N[i]? = some x → i < k → x.1 = true) (fun k => n - k) 0 ⟨hs, Nat.zero_le _, fun i x _ hi => absurd hi (Nat.not_lt_zero _)⟩ zss ?_
  rintro k w2 ⟨hs1, hk, hall⟩ ih
  have hs : St w NoF w2 [_, _] := hs1
  have hki : inK .i64 ((k : Int) + 1) := by unfold inK; simp only [IntKind.min, IntKind.max, IntKind.bits, IntKind.signed]; omega
  by_cases hgo : isM N ((k : Int) + 1) = true
  · obtain ⟨j, y, hj, hy, hyu⟩ := isM_true.1 hgo
    have hjk : j = k := by omega
    subst hjk
    have hjl := (List.getElem?_eq_some_iff.1 hy).1
    repeat' (first | ((apply aL 105; refine JL_o (by exact aA eO rfl (is_r _ a a2 n c n2 c2 N ((j : Int) + 1) (h.st hs) hki)) rfl rfl ?_; rintro _ _ ⟨rfl, hE⟩; rw [hgo]; have hs := hs.ext hE; (try simp only [zcc] at hs))) | (apply aH) | ((apply aC); exact zop; first | (exact rfl; exact rfl) | exact rfl) | (apply aQ) | (apply aB) | (apply aN) | (apply aW) | (apply aV) | (apply aG; refine bB rfl gb ?_))
    refine ih (j + 1) _ _ ⟨hs, by omega, fun i x hx hi => ?_⟩ (by omega) zss
    by_cases e : i = j
    · subst e; rw [hy] at hx; cases hx; exact hyu
    · exact hall i x hx (by omega)
  have hgo : isM N ((k : Int) + 1) = false := by simpa using hgo
  have hfk : eH N = k := qU (by omega) hall (fun x hx => by
    cases hxu : x.1 with
    | false => rfl
    | true => rw [isM_true.2 ⟨k, x, rfl, hx, hxu⟩] at hgo; cases hgo)
  have hput := xZ (v := (k : Int) + 1) hc htb hfz (by omega)
  by_cases hmu : dX N = 4000
  · have e1 : ofC N t = 6 := by unfold ofC; rw [htb, if_pos rfl, if_neg (fun e => e hfz), if_pos hmu]
    rw [if_pos hmu] at hput
    rw [e1]
    repeat' (first | ((apply aL 105; refine JL_o (by exact aA eO rfl (is_r _ a a2 n c n2 c2 N ((k : Int) + 1) (h.st hs) hki)) rfl rfl ?_; rintro _ _ ⟨rfl, hE⟩; rw [hgo]; have hs := hs.ext hE; (try simp only [zcc] at hs))) | ((apply aL 132; refine JL_o (by exact aA en132 rfl (put_bad _ a2 n2 c2 E a3 n3 c3 t ((k : Int) + 1) (hE0.st hs) hn2 (ht.st hs) hki (by rw [hput]; decide))) rfl rfl ?_; rintro _ _ ⟨rfl, hE⟩; rw [hput]; have hs := hs.ext hE; (try simp only [zcc] at hs))) | (apply aH) | ((apply aC); exact zop; first | (exact rfl; exact rfl) | exact rfl) | (apply aQ) | (apply aB) | (apply bG; refine bP rfl ?_) | (apply aF (t := 10); refine JL_o (by apply aR; exact aJ hs) rfl rfl ?_; rintro _ _ ⟨b10, rfl, hb10, hs, hE⟩) | (apply aU; refine JL_u (by apply aP; exact aK hs rfl rfl rfl) rfl ?_; rintro _ _ ⟨hs, hF⟩) | (apply aG; first | refine aS rfl ob ?_ | refine bD rfl gb ?_))
    refine aM Tryz.func99 rfl (.agg' hs rfl rfl (.tmp rfl (.tmp rfl .nil))) (.inl ⟨by decide, rfl, hs.frm.ext⟩)
  have e1 : ofC N t = 0 := by unfold ofC; rw [htb, if_pos rfl, if_neg (fun e => e hfz), if_neg hmu]
  have e2 : ofL N t = setN N (eH N) (newN t) := by unfold ofL; rw [if_pos e1, if_neg (fun e => e hfz)]
  have e3 : ofn N t = eH N + 1 := by unfold ofn; rw [if_pos e1, if_neg (fun e => e hfz)]
  rw [if_neg hmu] at hput
  rw [e1, e2, e3, hfk]
  have ht12 := (typeB_iff.1 htb).1
  have ik : ((k : Int) + 1 - 1).toNat = k := by omega
  by_cases hkn : k = n
  · have hgt : (k : Int) + 1 > n := by omega
    have hbnd : 0 ≤ (k : Int) + 1 - 1 ∧ (k : Int) + 1 - 1 < (n + 1 : Nat) := by omega
    repeat' (first | ((apply aL 105; refine JL_o (by exact aA eO rfl (is_r _ a a2 n c n2 c2 N ((k : Int) + 1) (h.st hs) hki)) rfl rfl ?_; rintro _ _ ⟨rfl, hE⟩; rw [hgo]; have hs := hs.ext hE; (try simp only [zcc] at hs))) | ((apply aL 132; refine JL_o (by exact aA en132 rfl (aAf _ a2 n2 c2 E a3 n3 c3 t ((k : Int) + 1) (hE0.st hs) hn2 (ht.st hs) hki hput)) rfl rfl ?_; rintro _ _ ⟨es1, rs1, a4, ⟨hce1, hpe1, hle1⟩, rfl, hf⟩; have hs := hs.fresh hf; (try simp only [zcc] at hs))) | ((apply aL 107; refine JL_o (by exact aA aBl rfl (tY _ a a4 n c es1.length es1.length N es1 (h.st hs) (eM hs zmm zmm) (by omega) hle1 hz (jD hce1))) rfl rfl ?_; rintro _ _ ⟨qs, rs', a', a2', ⟨hqm, hqo⟩, rfl, hf⟩; have hs := hs.fresh hf; have hql : qs.length = n := (by have := congrArg List.length hqm; rw [List.length_map] at this; omega); have hset : ∀ u : RNd, bR (encL cNd (qs.map rawN ++ [r00])) (((k : Int) + 1 - 1).toNat * 4) (cNd u) = encL cNd (qs.map rawN ++ [u]) := (fun u => by rw [ik, mN _ _ _ (by rw [List.length_append, List.length_map, hql, hkn]; simp), List.set_append_right _ _ (by rw [List.length_map]; omega), List.length_map, hql, hkn, Nat.sub_self]; rfl); (try simp only [zcc] at hs))) | ((apply ax_c; apply gG 114; exact rfl; (intro W X hN hs; exact aA en114 rfl (mR _ a3 n3 c3 t (ht.st hs) (by omega))); (rintro _ _ _ _ ⟨a9, rfl, hf⟩; first | exact hE | exact Fresh.ext hf); rintro W X _ _ hN hs ⟨a9, rfl, hf⟩; have hs := hs.fresh hf; (try simp only [zcc] at hs); refine JX.at hs ?_)) | ((apply aF (t := 57); refine JL_o (by apply bW; exact cF (xs := encL cNd (qs.map rawN)) (news := cNd r00) hs rfl rfl (lZ (r := r00) (hs.blk (b := b56))) cJ rfl (by omega) (by unfold maxLen; omega)) rfl rfl ?_; rintro _ _ ⟨a6, c6, rfl, hs, hF, hnil⟩; rw [kS] at hs; obtain ⟨b, o, rfl⟩ := (hs.row a6 (n + 1) c6).some (by omega))) | ((apply aU; refine JL_u (by apply aP; exact cD (b := b) (o := o) (off := ((k : Int) + 1 - 1).toNat * 4) (n := n + 1) (c := c6) (vs := cNd (rNew (a9, n3, n3))) hs rfl rfl rfl rfl (by simp [Value.oneCell']) (by show ((k : Int) + 1 - 1).toNat * 4 + 4 ≤ (n + 1) * 4; omega)) rfl ?_; rintro _ _ ⟨hs, hF⟩; rw [hset] at hs)) | (apply aH) | ((first | (apply aC) | (apply JX_f; exact rfl; intro W X hs)); exact zop; first | (exact rfl; exact rfl) | exact rfl) | (apply aQ) | (apply aB) | (apply bG; refine bP rfl ?_) | (apply aV) | (apply aF (t := 10); refine JL_o (by apply aR; exact aJ hs) rfl rfl ?_; rintro _ _ ⟨b10, rfl, hb10, hs, hE⟩) | (apply aF (t := 56); refine JL_o (by apply bJ; exact bF hs rfl (by omega) rfl) rfl rfl ?_; rintro _ _ ⟨b56, rfl, hb56, hs, hE⟩) | (apply aU; refine JL_u (by apply aP; exact aK hs rfl rfl rfl) rfl ?_; rintro _ _ ⟨hs, hF⟩) | (apply aG; first | refine aS rfl ob ?_ | refine aZ rfl ob ?_ | refine bD rfl gb ?_) | (apply bV; (refine bQ (id := 16) [0, 1, 0, 4, 0, 16, 48, 127, 255] [(0, 0), (1, 0), (2, 0), (3, 0), (4, 0), (5, 1), (6, 0), (7, 0)] [8] hs cQ (by kernel_rfl) (by kernel_rfl) (by kernel_rfl) (by kernel_rfl) (by kernel_rfl) ?_)) | (refine bU (fun W hs => ?_)) | (apply eS; case' hos => (simp only [List.map_cons, List.map_nil, List.getElem?_toArray, List.getElem?_cons_succ, List.getElem?_cons_zero]; repeat' (first | exact fS | apply eR))))
    obtain ⟨qn, hqn⟩ : ∃ qn : QN, qn = (true, ((a9, n3, n3), t), (z0, []), (z0, [])) := ⟨_, rfl⟩
    have hqnm : fO qn = newN t := by rw [hqn]
    have hqno : okN qn := by rw [hqn]; exact ⟨⟨htl.symm, hto⟩, ⟨rfl, fun x h => by cases h⟩, ⟨rfl, fun x h => by cases h⟩⟩
    have hs := (hs.nilRow 93 2).nilRow 93 2
    have hs := St.packN (q := (true, ((a9, n3, n3), t), (z0, []), (z0, []))) (L := [OwnN qs, _, _, _, _]) (hs.sel [2, 0, 1, 5, 4, 6, 7, 11] (by decide))
    rw [← hqn] at hs
    have hs := St.pushN hs
    have hmp : (qs ++ [qn]).map rawN = qs.map rawN ++ [rNew (a9, n3, n3)] := by rw [List.map_append, hqn]; rfl
    rw [← hmp] at hs
    have hsn : setN N k (newN t) = N ++ [newN t] := by unfold setN; rw [if_neg (by omega)]
    have hents := wN hc hfz hce1 (by rw [hfk]; exact hpe1)
    rw [hfk] at hents
    refine aM Tryz.func99 rfl (.agg' hs rfl rfl (.tmp rfl (.tmp rfl .nil))) (.inr ⟨rfl, some ⟨b, o, none⟩, n + 1, c6, a2', es1.length, es1.length, rfl, Nat.le_refl _, qs ++ [qn], es1, rs', ⟨by rw [List.map_append, hqm, hsn, ← hqnm]; rfl, fun u hu => ?_⟩, ⟨hce1, hents⟩, ⟨by rw [hsn, List.length_append, hl]; rfl, rfl, hle1⟩, (hs.sel [1, 0, 2, 3] (by decide)).out (List.Sublist.refl _)⟩)
    rcases List.mem_append.1 hu with e | e
    · exact hqo u e
    · rw [List.mem_singleton.1 e]; exact hqno
  · have hgt : ¬ (k : Int) + 1 > n := by omega
    have hbnd : 0 ≤ (k : Int) + 1 - 1 ∧ (k : Int) + 1 - 1 < n := by omega
    repeat' (first | ((apply aL 105; refine JL_o (by exact aA eO rfl (is_r _ a a2 n c n2 c2 N ((k : Int) + 1) (h.st hs) hki)) rfl rfl ?_; rintro _ _ ⟨rfl, hE⟩; rw [hgo]; have hs := hs.ext hE; (try simp only [zcc] at hs))) | ((apply aL 132; refine JL_o (by exact aA en132 rfl (aAf _ a2 n2 c2 E a3 n3 c3 t ((k : Int) + 1) (hE0.st hs) hn2 (ht.st hs) hki hput)) rfl rfl ?_; rintro _ _ ⟨es1, rs1, a4, ⟨hce1, hpe1, hle1⟩, rfl, hf⟩; have hs := hs.fresh hf; (try simp only [zcc] at hs))) | ((apply aL 107; refine JL_o (by exact aA aBl rfl (tY _ a a4 n c es1.length es1.length N es1 (h.st hs) (eM hs zmm zmm) (by omega) hle1 hz (jD hce1))) rfl rfl ?_; rintro _ _ ⟨qs, rs', a', a2', ⟨hqm, hqo⟩, rfl, hf⟩; have hs := hs.fresh hf; simp only [zcc] at hs; obtain ⟨b, o, rfl⟩ := (hs.row a' n n).some (by omega); have hql : qs.length = n := (by have := congrArg List.length hqm; rw [List.length_map] at this; omega); have hset : ∀ u : RNd, bR (encL cNd (qs.map rawN)) (((k : Int) + 1 - 1).toNat * 4) (cNd u) = encL cNd ((qs.map rawN).set k u) := (fun u => by rw [ik]; exact mN _ k u (by rw [List.length_map]; omega)); (try simp only [zcc] at hs))) | ((apply ax_c; apply gG 114; exact rfl; (intro W X hN hs; exact aA en114 rfl (mR _ a3 n3 c3 t (ht.st hs) (by omega))); (rintro _ _ _ _ ⟨a9, rfl, hf⟩; first | exact hE | exact Fresh.ext hf); rintro W X _ _ hN hs ⟨a9, rfl, hf⟩; have hs := hs.fresh hf; (try simp only [zcc] at hs); refine JX.at hs ?_)) | ((apply aU; refine JL_u (by apply aP; exact cD (b := b) (o := o) (off := ((k : Int) + 1 - 1).toNat * 4) (n := n) (c := n) (vs := cNd (rNew (a9, n3, n3))) hs rfl rfl rfl rfl (by simp [Value.oneCell']) (by show ((k : Int) + 1 - 1).toNat * 4 + 4 ≤ n * 4; omega)) rfl ?_; rintro _ _ ⟨hs, hF⟩; rw [hset] at hs)) | (apply aH) | ((first | (apply aC) | (apply JX_f; exact rfl; intro W X hs)); exact zop; first | (exact rfl; exact rfl) | exact rfl) | (apply aQ) | (apply aB) | (apply bG; refine bP rfl ?_) | (apply aV) | (apply aF (t := 10); refine JL_o (by apply aR; exact aJ hs) rfl rfl ?_; rintro _ _ ⟨b10, rfl, hb10, hs, hE⟩) | (apply aU; refine JL_u (by apply aP; exact aK hs rfl rfl rfl) rfl ?_; rintro _ _ ⟨hs, hF⟩) | (apply aG; first | refine aZ rfl ob ?_ | refine bD rfl gb ?_) | (apply bV; (refine bQ (id := 16) [0, 1, 0, 4, 0, 16, 48, 127, 255] [(0, 0), (1, 0), (2, 0), (3, 0), (4, 0), (5, 1), (6, 0), (7, 0)] [8] hs cQ (by kernel_rfl) (by kernel_rfl) (by kernel_rfl) (by kernel_rfl) (by kernel_rfl) ?_)) | (refine bU (fun W hs => ?_)) | (apply eS; case' hos => (simp only [List.map_cons, List.map_nil, List.getElem?_toArray, List.getElem?_cons_succ, List.getElem?_cons_zero]; repeat' (first | exact fS | apply eR))))
    obtain ⟨qn, hqn⟩ : ∃ qn : QN, qn = (true, ((a9, n3, n3), t), (z0, []), (z0, [])) := ⟨_, rfl⟩
    have hqnm : fO qn = newN t := by rw [hqn]
    have hqno : okN qn := by rw [hqn]; exact ⟨⟨htl.symm, hto⟩, ⟨rfl, fun x h => by cases h⟩, ⟨rfl, fun x h => by cases h⟩⟩
    have hs := (hs.nilRow 93 2).nilRow 93 2
    have hs := St.packN (q := (true, ((a9, n3, n3), t), (z0, []), (z0, []))) (L := [OwnN qs, _, _, _, _]) (hs.sel [2, 0, 1, 4, 3, 5, 6, 10] (by decide))
    rw [← hqn] at hs
    obtain ⟨q0, hq0⟩ : ∃ q0, qs[k]? = some q0 := ⟨_, List.getElem?_eq_getElem (by omega)⟩
    have hs := St.replN hq0 hs
    have hmp : (qs.set k qn).map rawN = (qs.map rawN).set k (rNew (a9, n3, n3)) := by rw [List.map_set, hqn]
    rw [← hmp] at hs
    have hsn : setN N k (newN t) = N.set k (newN t) := by unfold setN; rw [if_pos (by omega)]
    have hents := wN hc hfz hce1 (by rw [hfk]; exact hpe1)
    rw [hfk] at hents
    refine aM Tryz.func99 rfl (.agg' hs rfl rfl (.tmp rfl (.tmp rfl .nil))) (.inr ⟨rfl, some ⟨b, o, none⟩, n, n, a2', es1.length, es1.length, rfl, by omega, qs.set k qn, es1, rs', ⟨by rw [List.map_set, hqm, hsn, ← hqnm], fun u hu => ?_⟩, ⟨hce1, hents⟩, ⟨by rw [hsn, List.length_set, hl], rfl, hle1⟩, (hs.sel [1, 0, 2, 3] (by decide)).out (List.Sublist.refl _)⟩)
    rcases List.mem_or_eq_of_mem_set hu with e | e
    · exact hqo u e
    · rw [e]; exact hqno
end Go.Eng
end
section
namespace Go.Eng
open Go.Proofs
set_option linter.unusedSimpArgs false
set_option linter.unusedVariables false
theorem St.rebase {w0 w : World} {F : Nat → Prop} {L : List HP} (_ : St w0 F w L) : St w NoF w [] := St.init w
theorem wI {N : List NM} {t : List Int} (hz : szN N) (ht : t.length ≤ 1000000) : szN (ofL N t) := by
  unfold ofL
  by_cases h : ofC N t = 0
  · rw [if_pos h]
    by_cases h2 : eX N t ≠ 0
    · rw [if_pos h2]; exact hz
    · rw [if_neg h2]
      intro x hx
      obtain ⟨i, hi⟩ := List.mem_iff_getElem?.1 hx
      rw [iM (fU N)] at hi
      by_cases e : i = eH N
      · rw [if_pos e] at hi; cases hi; exact ⟨ht, by show 0 ≤ 1000000; omega, by show 0 ≤ 1000000; omega⟩
      · rw [if_neg e] at hi; exact hz x (List.mem_of_getElem? hi)
  · rw [if_neg h]; intro x hx; cases hx
theorem oG {N : List NM} {lo hi : Nat} {id : Int} {a b : NM} (ha : N[hi]? = some a) (hb : N[lo]? = some b) : fF N lo hi id = (N.set hi (a.1, a.2.1, a.2.2.1, wiS a.2.2.2 (id, (lo : Int) + 1))).set lo (b.1, b.2.1, wiS b.2.2.1 (id, (hi : Int) + 1), b.2.2.2) := by
  unfold fF
  rw [cK ha, cK hb]
theorem qR {id : Int} {k : Nat} (h : okId id) (hk : k ≤ 1000000) : okT (id, (k : Int) + 1) := ⟨h, by show inK .i64 ((k : Int) + 1); unfold inK; simp only [IntKind.min, IntKind.max, IntKind.bits, IntKind.signed]; omega⟩
theorem qH {l : List ST} {s : ST} (h : ∀ x ∈ l, okT x) (hs : okT s) : ∀ x ∈ wiS l s, okT x := fun x hx => by
  rcases wiS_mem.1 hx with e | e
  · rw [e]; exact hs
  · exact h x e.1
attribute [local irreducible] Hold J JL JD JX JXat OpR OpG Ret RetV Is Blk Row
set_option maxRecDepth 100000
set_option maxHeartbeats 2000000
theorem goPR_r (w : World) (a : Option Addr) (n c : Nat) (N : List NM) (X0 id : Int) (h : Sl eD All w a n c N) (hn : n ≤ 900000) (hz : szN N) (g : GR N) (hx0 : inK .i64 X0) (hid : okId id) :
    Ret Tryz.prog 37 #[.slice a n c, .int .i64 X0, .int .u64 id, .bool true] w fun v w' => ∃ (a' : Option Addr) (m c' : Nat), v = .tuple #[.slice a' m c', .int .i64 (gon N X0 id true), .int .i64 (goC N X0 id true)] ∧ Ext w w' ∧ Sl eD All w' a' m c' (goL N X0 id true) := by
  refine bI (l := [_, _, _, _]) Tryz.func37 rfl Tryz.ntmps37 (by simp) ?_
  have hs := St.init w
  have hl := h.len
  obtain ⟨rs, hr, hm⟩ := Sl.raw (D := gD) h
  have bad : ∀ e : Int, goC N X0 id true = e → e ≠ 0 → gon N X0 id true = 0 ∧ goL N X0 id true = [] := fun e h1 h2 => by
    unfold gon goL
    rw [if_neg (fun e2 => h2 (h1.symm.trans e2)), if_neg (fun e2 => h2 (h1.symm.trans e2))]
    exact ⟨rfl, rfl⟩
  cases hi : isM N X0 with
  | false =>
    have e1 : goC N X0 id true = 2 := by unfold goC; rw [hi]; rfl
    obtain ⟨e2, e3⟩ := bad 2 e1 (by decide)
    rw [e1, e2, e3]
    repeat' (first | ((apply aL 56; refine JL_o (by exact aA en56 rfl (dT _ a n c N X0 (h.st hs) hx0)) rfl rfl ?_; rintro _ _ ⟨rfl, hE⟩; rw [hi]; have hs := hs.ext hE; (try simp only [zcc] at hs))) | (apply aH) | ((apply aC); exact zop; first | (exact rfl; exact rfl) | exact rfl) | (apply aQ) | (apply aB) | (apply aG; refine bB rfl gb ?_))
    refine aM Tryz.func37 rfl (.tmp rfl (.tmp rfl (.tmp rfl .nil))) ⟨none, 0, 0, rfl, hs.frm.ext, fE _ _ _⟩
  | true =>
  obtain ⟨p, x, rfl, hxp, hxu⟩ := isM_true.1 hi
  have hpl := (List.getElem?_eq_some_iff.1 hxp).1
  have hnd : cZ N ((p : Int) + 1) = x := cO hxp
  obtain ⟨r0, hr0, hrel0⟩ := hm.get hxp
  obtain ⟨u1, mT, u3, u4⟩ := fQ hrel0
  have mTl := mT.len
  have zT := (hz x (List.mem_of_getElem? hxp)).1
  have hTy := g.typ p x hxp hxu
  have hr0' : rs[((p : Int) + 1 - 1).toNat]? = some r0 := by rw [show ((p : Int) + 1 - 1).toNat = p by omega]; exact hr0
  have hbx : 0 ≤ (p : Int) + 1 - 1 ∧ (p : Int) + 1 - 1 < n := by omega
  obtain ⟨b0, o0, rfl⟩ := hr.sl.addr (by omega)
  have hgc : goC N ((p : Int) + 1) id true = (if mayM id then (if id ∈ x.2.1 then 0 else if x.2.1.length = 12 then 6 else ofC N (wiT x.2.1 id)) else 2) := by unfold goC; rw [hi, if_pos rfl, hnd]; rfl
  have hst : kB N ((p : Int) + 1) id true = decide (id ∈ x.2.1) := by unfold kB; rw [hnd]; rfl
  obtain ⟨mb, hmem⟩ : ∃ b, decide (id ∈ x.2.1) = b := ⟨_, rfl⟩
  rw [hmem] at hst
  cases hmay : mayM id with
  | false =>
    rw [hmay, if_neg (by decide)] at hgc
    obtain ⟨e2, e3⟩ := bad 2 hgc (by decide)
    rw [hgc, e2, e3]
    repeat' (first | ((apply aL 56; refine JL_o (by exact aA en56 rfl (dT _ (some ⟨b0, o0, none⟩) n c N ((p : Int) + 1) (h.st hs) hx0)) rfl rfl ?_; rintro _ _ ⟨rfl, hE⟩; rw [hi]; have hs := hs.ext hE; (try simp only [zcc] at hs))) | ((apply aL 29; refine JL_o (by exact aA en29 rfl (fD _ r0.2.1.1 r0.2.1.2.1 r0.2.1.2.2 x.2.1 id (mT.st hs))) rfl rfl ?_; rintro _ _ ⟨rfl, hE⟩; rw [hmem]; have hs := hs.ext hE; (try simp only [zcc] at hs))) | ((apply bE 88; refine bM rfl gb (by exact aA en88 rfl (mH _ id hid)) rfl rfl ?_; rintro _ _ ⟨rfl, hE⟩; rw [hmay]; have hs := hs.ext hE; (try simp only [zcc] at hs))) | (apply aH) | ((first | (apply aC) | (apply bA; exact rfl; exact gb)); (first | (apply aT; first | exact aX (i := ((p : Int) + 1 - 1).toNat) (j := 1) (hr.st hs) hr0' rfl rfl rfl aI) | exact zop); first | (exact rfl; exact rfl) | exact rfl) | (apply aQ) | (apply aB) | (apply aN) | (apply aV) | (apply aG; first | refine bB rfl gb ?_ | refine bD rfl gb ?_))
    refine aM Tryz.func37 rfl (.tmp rfl (.tmp rfl (.tmp rfl .nil))) ⟨none, 0, 0, rfl, hs.frm.ext, fE _ _ _⟩
  | true =>
  rw [hmay, if_pos rfl] at hgc
  cases mb with
  | true =>
    have hin := of_decide_eq_true hmem
    rw [if_pos hin] at hgc
    have e2 : gon N ((p : Int) + 1) id true = (p : Int) + 1 := by unfold gon; rw [if_pos hgc, if_pos hst]
    have e3 : goL N ((p : Int) + 1) id true = N := by unfold goL; rw [if_pos hgc, if_pos hst]
    rw [hgc, e2, e3]
    repeat' (first | ((apply aL 56; refine JL_o (by exact aA en56 rfl (dT _ (some ⟨b0, o0, none⟩) n c N ((p : Int) + 1) (h.st hs) hx0)) rfl rfl ?_; rintro _ _ ⟨rfl, hE⟩; rw [hi]; have hs := hs.ext hE; (try simp only [zcc] at hs))) | ((apply aL 29; refine JL_o (by exact aA en29 rfl (fD _ r0.2.1.1 r0.2.1.2.1 r0.2.1.2.2 x.2.1 id (mT.st hs))) rfl rfl ?_; rintro _ _ ⟨rfl, hE⟩; rw [hmem]; have hs := hs.ext hE; (try simp only [zcc] at hs))) | ((apply bE 88; refine bM rfl gb (by exact aA en88 rfl (mH _ id hid)) rfl rfl ?_; rintro _ _ ⟨rfl, hE⟩; rw [hmay]; have hs := hs.ext hE; (try simp only [zcc] at hs))) | (apply aH) | ((first | (apply aC) | (apply bA; exact rfl; exact gb)); (first | (apply aT; first | exact aX (i := ((p : Int) + 1 - 1).toNat) (j := 1) (hr.st hs) hr0' rfl rfl rfl aI) | exact zop); first | (exact rfl; exact rfl) | exact rfl) | (apply aQ) | (apply aB) | (apply aN) | (apply aV) | (apply aG; first | refine bB rfl gb ?_ | refine bD rfl gb ?_))
    refine aM Tryz.func37 rfl (.tmp rfl (.tmp rfl (.tmp rfl .nil))) ⟨_, n, c, rfl, hs.frm.ext, h.st hs⟩
  | false =>
  have hin := of_decide_eq_false hmem
  rw [if_neg hin] at hgc
  by_cases h12 : x.2.1.length = 12
  · rw [if_pos h12] at hgc
    have h12' : (r0.2.1.2.1 : Int) = 12 := by omega
    obtain ⟨e2, e3⟩ := bad 6 hgc (by decide)
    rw [hgc, e2, e3]
    repeat' (first | ((apply aL 56; refine JL_o (by exact aA en56 rfl (dT _ (some ⟨b0, o0, none⟩) n c N ((p : Int) + 1) (h.st hs) hx0)) rfl rfl ?_; rintro _ _ ⟨rfl, hE⟩; rw [hi]; have hs := hs.ext hE; (try simp only [zcc] at hs))) | ((apply aL 29; refine JL_o (by exact aA en29 rfl (fD _ r0.2.1.1 r0.2.1.2.1 r0.2.1.2.2 x.2.1 id (mT.st hs))) rfl rfl ?_; rintro _ _ ⟨rfl, hE⟩; rw [hmem]; have hs := hs.ext hE; (try simp only [zcc] at hs))) | ((apply bE 88; refine bM rfl gb (by exact aA en88 rfl (mH _ id hid)) rfl rfl ?_; rintro _ _ ⟨rfl, hE⟩; rw [hmay]; have hs := hs.ext hE; (try simp only [zcc] at hs))) | (apply aH) | ((first | (apply aC) | (apply bA; exact rfl; exact gb)); (first | (apply aT; first | exact aX (i := ((p : Int) + 1 - 1).toNat) (j := 1) (hr.st hs) hr0' rfl rfl rfl aI) | exact zop); first | (exact rfl; exact rfl) | exact rfl) | (apply aQ) | (apply aB) | (apply aN) | (apply aV) | (apply aG; first | refine aS rfl ob ?_ | refine bD rfl gb ?_))
    refine aM Tryz.func37 rfl (.tmp rfl (.tmp rfl (.tmp rfl .nil))) ⟨none, 0, 0, rfl, hs.frm.ext, fE _ _ _⟩
  rw [if_neg h12] at hgc
  have h12' : ¬ (r0.2.1.2.1 : Int) = 12 := by omega
  have hmm : id ∈ x.2.1 ↔ true = false := ⟨fun h => absurd h hin, fun h => by cases h⟩
  obtain ⟨ZL, hZL⟩ : ∃ z, z = wiT x.2.1 id := ⟨_, rfl⟩
  have hZo : ∀ u ∈ ZL, okId u := by rw [hZL]; exact (fun u hu => (wiT_mem.1 hu).elim (fun e => e ▸ hid) (fun e => jW mT u e))
  have hZl : ZL.length ≤ 1000000 := by rw [hZL, mW hin]; have := (typeB_iff.1 hTy).1; omega
  rw [← hZL] at hgc
  obtain ⟨oc, hoc⟩ : ∃ e, ofC N ZL = e := ⟨_, rfl⟩
  by_cases ho0 : oc = 0
  rotate_left
  · obtain ⟨e2, e3⟩ := bad oc (hgc.trans hoc) ho0
    rw [hgc, hoc, e2, e3]
    repeat' (first | ((apply aL 56; refine JL_o (by exact aA en56 rfl (dT _ (some ⟨b0, o0, none⟩) n c N ((p : Int) + 1) (h.st hs) hx0)) rfl rfl ?_; rintro _ _ ⟨rfl, hE⟩; rw [hi]; have hs := hs.ext hE; (try simp only [zcc] at hs))) | ((apply aL 29; refine JL_o (by exact aA en29 rfl (fD _ r0.2.1.1 r0.2.1.2.1 r0.2.1.2.2 x.2.1 id (mT.st hs))) rfl rfl ?_; rintro _ _ ⟨rfl, hE⟩; rw [hmem]; have hs := hs.ext hE; (try simp only [zcc] at hs))) | ((apply bE 88; refine bM rfl gb (by exact aA en88 rfl (mH _ id hid)) rfl rfl ?_; rintro _ _ ⟨rfl, hE⟩; rw [hmay]; have hs := hs.ext hE; (try simp only [zcc] at hs))) | ((apply aL 102; refine JL_o (by exact aA yT rfl (gS _ r0.2.1.1 r0.2.1.2.1 r0.2.1.2.2 x.2.1 id (mT.st hs) (by omega))) rfl rfl ?_; rintro _ _ ⟨aw, cw, rfl, hf⟩; have hs := hs.fresh hf; (try simp only [zcc] at hs))) | ((apply aL 103; refine JL_o (by exact aA en103 rfl (rH _ r0.2.1.1 r0.2.1.2.1 r0.2.1.2.2 x.2.1 id (mT.st hs) (by omega))) rfl rfl ?_; rintro _ _ ⟨av, cv, rfl, hf⟩; rw [← hZL] at hf; rw [← hZL]; have hs := hs.fresh hf; (try simp only [zcc] at hs))) | ((apply aL 34; refine JL_o (by exact aA en34 rfl (nB _ (some ⟨b0, o0, none⟩) av n c ZL.length cv N ZL (h.st hs) (slU hs zmm hZo) hn)) rfl rfl ?_; rintro _ _ ⟨a4, m4, c4, rfl, hm4, hE, hsl4⟩; rw [hoc]; have hs := hs.ext hE; (try simp only [zcc] at hs))) | (apply aH) | ((first | (apply aC) | (apply bA; exact rfl; exact gb)); (first | (apply aT; first | exact aX (i := ((p : Int) + 1 - 1).toNat) (j := 1) (hr.st hs) hr0' rfl rfl rfl aI) | exact zop); first | (exact rfl; exact rfl) | exact rfl) | (apply aQ) | (apply aB) | (apply aN) | (apply aW) | (apply aV) | (apply bK; (refine cY rfl gb rfl ?_)) | (apply aG; first | refine aS rfl ob ?_ | refine aZ rfl ob ?_ | refine bB rfl gb ?_ | refine bD rfl gb ?_))
    refine aM Tryz.func37 rfl (.tmp rfl (.tmp rfl (.tmp rfl .nil))) ⟨none, 0, 0, rfl, hs.frm.ext, fE _ _ _⟩
  have ho1 : ¬ oc ≠ 0 := fun e => e ho0
  have hgz : goC N ((p : Int) + 1) id true = 0 := by rw [hgc, hoc, ho0]
  have hsf : kB N ((p : Int) + 1) id true = false := by rw [hst]
  obtain ⟨p2, q, x2, y, hg⟩ : ∃ (p2 q : Nat) (x2 y : NM), Gone N ((p : Int) + 1) id true p2 q x2 y := by
    rcases mK g hgz with ⟨h1, _⟩ | ⟨_, h1⟩
    · rw [hsf] at h1; cases h1
    · exact h1
  have hpp : p2 = p := by have := hg.np; omega
  rw [hpp] at hg
  have hxx : x2 = x := by have := hg.hx; rw [hxp] at this; exact (Option.some.inj this).symm
  rw [hxx] at hg
  clear hpp hxx
  obtain ⟨eL, eN⟩ := hg.goL hgz hsf
  obtain ⟨hlh, gL, _⟩ := hg.facts g
  have hof : ofL N (fZ true x.2.1 id) = ofL N ZL := by rw [hZL]; rfl
  have hofn : ofn N ZL = q + 1 := by rw [← hg.hq, hZL]; rfl
  have hp1 : (ofL N ZL)[p]? = some x := by rw [← hof]; exact hg.hp'
  have hq1 : (ofL N ZL)[q]? = some y := by rw [← hof]; exact hg.hy
  rw [hof] at eL
  have hz1 := wI (t := ZL) hz hZl
  obtain ⟨_, zx2, zx3⟩ := hz1 x (List.mem_of_getElem? hp1)
  obtain ⟨_, zy2, zy3⟩ := hz1 y (List.mem_of_getElem? hq1)
  have hne : p ≠ q := hlh
  have hlk := oG (N := ofL N ZL) (lo := p) (hi := q) (id := id) (a := y) (b := x) hq1 hp1
  rw [hgz, eN, eL]
  rw [show fF (ofL N ZL) (loP true p q) (hiP true p q) id = fF (ofL N ZL) p q id from rfl, hlk]
  repeat' (first | ((apply aL 56; refine JL_o (by exact aA en56 rfl (dT _ (some ⟨b0, o0, none⟩) n c N ((p : Int) + 1) (h.st hs) hx0)) rfl rfl ?_; rintro _ _ ⟨rfl, hE⟩; rw [hi]; have hs := hs.ext hE; (try simp only [zcc] at hs))) | ((apply aL 29; refine JL_o (by exact aA en29 rfl (fD _ r0.2.1.1 r0.2.1.2.1 r0.2.1.2.2 x.2.1 id (mT.st hs))) rfl rfl ?_; rintro _ _ ⟨rfl, hE⟩; rw [hmem]; have hs := hs.ext hE; (try simp only [zcc] at hs))) | ((apply bE 88; refine bM rfl gb (by exact aA en88 rfl (mH _ id hid)) rfl rfl ?_; rintro _ _ ⟨rfl, hE⟩; rw [hmay]; have hs := hs.ext hE; (try simp only [zcc] at hs))) | ((apply aL 102; refine JL_o (by exact aA yT rfl (gS _ r0.2.1.1 r0.2.1.2.1 r0.2.1.2.2 x.2.1 id (mT.st hs) (by omega))) rfl rfl ?_; rintro _ _ ⟨aw, cw, rfl, hf⟩; have hs := hs.fresh hf; (try simp only [zcc] at hs))) | ((apply aL 103; refine JL_o (by exact aA en103 rfl (rH _ r0.2.1.1 r0.2.1.2.1 r0.2.1.2.2 x.2.1 id (mT.st hs) (by omega))) rfl rfl ?_; rintro _ _ ⟨av, cv, rfl, hf⟩; rw [← hZL] at hf; rw [← hZL]; have hs := hs.fresh hf; (try simp only [zcc] at hs))) | ((apply aL 34; refine JL_o (by exact aA en34 rfl (nB _ (some ⟨b0, o0, none⟩) av n c ZL.length cv N ZL (h.st hs) (slU hs zmm hZo) hn)) rfl rfl ?_; rintro _ _ ⟨a4, m4, c4, rfl, hm4, hE, hsl4⟩; rw [hoc, ho0, hofn, show (((q + 1 : Nat)) : Int) = (q : Int) + 1 from rfl]; have hs := hs.ext hE; have hE5 := hs.frm.ext; have hs := hs.rebase; obtain ⟨rs1, hr1, hm1⟩ := Sl.raw (D := gD) hsl4; obtain ⟨hsrc1, hpl1, _⟩ := hr1.srcF; have hl4 := hr1.len; have hl5 := hsl4.len; (try simp only [zcc] at hs))) | ((apply aF (t := 77); refine JL_o (by apply bJ; exact bF hs rfl (by omega) rfl) rfl rfl ?_; rintro _ _ ⟨b, rfl, hb, hs, hE⟩; have hs := hs.toRow 0 0 0 4 (xs := []) (Nat.le_refl _) (by unfold maxLen; omega) (by simp) rfl)) | ((apply aF (t := 79); refine JL_o (by apply bW; exact cF hs rfl rfl (Src.st hsrc1 hs) hpl1 rfl (by omega) (by unfold maxLen; omega)) rfl rfl ?_; rintro _ _ ⟨a5, c5, rfl, hs, hF, hnil⟩; rw [Nat.zero_add] at hs ⊢; rw [List.nil_append] at hs; have hs : St _ NoF _ [TabN a5 m4 c5 rs1] := hs.sel [0] (by decide); refine hold ?_)) | (apply aH) | ((first | (apply aC) | (apply bA; exact rfl; exact gb)); (first | (apply aT; first | exact aX (i := ((p : Int) + 1 - 1).toNat) (j := 1) (hr.st hs) hr0' rfl rfl rfl aI) | exact zop); first | (exact rfl; exact rfl) | exact rfl) | (apply aQ) | (apply aB) | (apply aN) | (apply aW) | (apply aV) | (apply bK; (refine cY rfl gb rfl ?_)) | (apply aG; first | refine aZ rfl ob ?_ | refine bB rfl gb ?_ | refine bD rfl gb ?_))
  obtain ⟨r, hrp, hrelp⟩ := hm1.get hp1
  obtain ⟨rq, hrq, hrelq⟩ := hm1.get hq1
  obtain ⟨rx1, rx2, rx3, rx4⟩ := fQ hrelp
  obtain ⟨ry1, ry2, ry3, ry4⟩ := fQ hrelq
  have hlp1 := rx3.len
  have hlp2 := rx4.len
  have hlq1 := ry3.len
  have hlq2 := ry4.len
  have hpl1 : p < rs1.length := (List.getElem?_eq_some_iff.1 hrp).1
  have hql1 : q < rs1.length := (List.getElem?_eq_some_iff.1 hrq).1
  have ip : ((p : Int) + 1 - 1).toNat = p := by omega
  have iq : ((q : Int) + 1 - 1).toNat = q := by omega
  have hbp : 0 ≤ (p : Int) + 1 - 1 ∧ (p : Int) + 1 - 1 < m4 := by omega
  have hbq : 0 ≤ (q : Int) + 1 - 1 ∧ (q : Int) + 1 - 1 < m4 := by omega
  obtain ⟨b, o, rfl⟩ := (hs.row a5 m4 c5).some (by omega)
  have hv1 : (encL cNd rs1)[((q : Int) + 1 - 1).toNat * 4 + 3]? = some (.slice rq.2.2.2.1 rq.2.2.2.2.1 rq.2.2.2.2.2) := by
    rw [iq, show (encL cNd rs1)[q * 4 + 3]? = (cNd rq)[3]? from dK (d := dRNd) rs1 q 3 rq hrq (by show 3 < 4; omega)]; rfl
  have hs1 : ∀ (a : Option Addr) (m c : Nat), bR (encL cNd rs1) (((q : Int) + 1 - 1).toNat * 4 + 3) [.slice a m c] = encL cNd (rs1.set q (rq.1, rq.2.1, rq.2.2.1, (a, m, c))) := fun a m c => by rw [iq]; exact kT rs1 q rq a m c hrq
  have hlo : ∀ u, (rs1.set q u)[p]? = some r := fun u => by rw [List.getElem?_set_ne (fun e => hne e.symm)]; exact hrp
  have hv2 : ∀ u, (encL cNd (rs1.set q u))[((p : Int) + 1 - 1).toNat * 4 + 2]? = some (.slice r.2.2.1.1 r.2.2.1.2.1 r.2.2.1.2.2) := fun u => by
    rw [ip, show (encL cNd (rs1.set q u))[p * 4 + 2]? = (cNd r)[2]? from dK (d := dRNd) (rs1.set q u) p 2 r (hlo u) (by show 2 < 4; omega)]; rfl
  have hs2 : ∀ u (a : Option Addr) (m c : Nat), bR (encL cNd (rs1.set q u)) (((p : Int) + 1 - 1).toNat * 4 + 2) [.slice a m c] = encL cNd ((rs1.set q u).set p (r.1, r.2.1, (a, m, c), r.2.2.2)) := fun u a m c => by rw [ip]; exact kU _ p r a m c (hlo u)
  refine oQ ?_
  repeat' (first | ((apply aL 104; refine JL_o (by exact aA en104 rfl (rI _ rq.2.2.2.1 rq.2.2.2.2.1 rq.2.2.2.2.2 y.2.2.2 (id, (p : Int) + 1) (ry4.st hs) (by omega))) rfl rfl ?_; rintro _ _ ⟨a6, c6, rfl, hf⟩; have hs := hs.fresh hf; (try simp only [zcc] at hs))) | ((apply aL 104; refine JL_o (by exact aA en104 rfl (rI _ r.2.2.1.1 r.2.2.1.2.1 r.2.2.1.2.2 x.2.2.1 (id, (q : Int) + 1) (rx3.st hs) (by omega))) rfl rfl ?_; rintro _ _ ⟨a7, c7, rfl, hf⟩; have hs := hs.fresh hf; (try simp only [zcc] at hs))) | ((apply aU; refine JL_u (by apply aP; exact cD (b := b) (o := o) (off := ((q : Int) + 1 - 1).toNat * 4 + 3) (n := m4) (c := c5) (vs := [.slice a6 (wiS y.2.2.2 (id, (p : Int) + 1)).length c6]) hs rfl rfl rfl rfl (by simp [Value.oneCell']) (by show ((q : Int) + 1 - 1).toNat * 4 + 3 + 1 ≤ m4 * 4; omega)) rfl ?_; rintro _ _ ⟨hs, hF⟩; rw [hs1] at hs)) | ((apply aU; refine JL_u (by apply aP; exact cD (b := b) (o := o) (off := ((p : Int) + 1 - 1).toNat * 4 + 2) (n := m4) (c := c5) (vs := [.slice a7 (wiS x.2.2.1 (id, (q : Int) + 1)).length c7]) hs rfl rfl rfl rfl (by simp [Value.oneCell']) (by show ((p : Int) + 1 - 1).toNat * 4 + 2 + 1 ≤ m4 * 4; omega)) rfl ?_; rintro _ _ ⟨hs, hF⟩; rw [hs2] at hs)) | (apply aH) | ((apply aC); (first | (apply aT; first | exact dG (b := b) (o := o) (off := ((q : Int) + 1 - 1).toNat * 4 + 3) (n := m4) (c := c5) hs rfl hv1 aI | exact dG (b := b) (o := o) (off := ((p : Int) + 1 - 1).toNat * 4 + 2) (n := m4) (c := c5) hs rfl (hv2 _) aI) | exact zop); first | (exact rfl; exact rfl) | exact rfl) | (apply aQ) | (apply aB) | (apply aG; refine bB rfl gb ?_))
  have hokh : ∀ u ∈ wiS y.2.2.2 (id, (p : Int) + 1), okT u := qH (mB ry4) (qR hid (by omega))
  have hokl : ∀ u ∈ wiS x.2.2.1 (id, (q : Int) + 1), okT u := qH (mB rx3) (qR hid (by omega))
  have hsl6 := slT hs (by repeat (first | exact List.Mem.head _ | apply List.Mem.tail) : RowT a6 _ c6 (wiS y.2.2.2 (id, (p : Int) + 1)) ∈ _) hokh
  have hsl7 := slT hs (by repeat (first | exact List.Mem.head _ | apply List.Mem.tail) : RowT a7 _ c7 (wiS x.2.2.1 (id, (q : Int) + 1)) ∈ _) hokl
  have hmean := ((hm1.st hs).set q (r := (rq.1, rq.2.1, rq.2.2.1, (a6, _, c6))) (x := (y.1, y.2.1, y.2.2.1, wiS y.2.2.2 (id, (p : Int) + 1))) ⟨ry1, ry2.st hs, ry3.st hs, hsl6⟩).set p (r := (r.1, r.2.1, (a7, _, c7), r.2.2.2)) (x := (x.1, x.2.1, wiS x.2.2.1 (id, (q : Int) + 1), x.2.2.2)) ⟨rx1, rx2.st hs, hsl7, rx4.st hs⟩
  refine aM Tryz.func37 rfl (.tmp rfl (.tmp rfl (.tmp rfl .nil))) ⟨some ⟨b, o, none⟩, m4, c5, rfl, hE5.trans hs.frm.ext, slNd hs (.tail _ (.tail _ (.head _))) hmean⟩
theorem goLR_r (w : World) (a : Option Addr) (n c : Nat) (N : List NM) (X0 id : Int) (h : Sl eD All w a n c N) (hn : n ≤ 900000) (hz : szN N) (g : GR N) (hx0 : inK .i64 X0) (hid : okId id) :
    Ret Tryz.prog 37 #[.slice a n c, .int .i64 X0, .int .u64 id, .bool false] w fun v w' => ∃ (a' : Option Addr) (m c' : Nat), v = .tuple #[.slice a' m c', .int .i64 (gon N X0 id false), .int .i64 (goC N X0 id false)] ∧ Ext w w' ∧ Sl eD All w' a' m c' (goL N X0 id false) := by
  refine bI (l := [_, _, _, _]) Tryz.func37 rfl Tryz.ntmps37 (by simp) ?_
  have hs := St.init w
  have hl := h.len
  obtain ⟨rs, hr, hm⟩ := Sl.raw (D := gD) h
  have bad : ∀ e : Int, goC N X0 id false = e → e ≠ 0 → gon N X0 id false = 0 ∧ goL N X0 id false = [] := fun e h1 h2 => by
    unfold gon goL
    rw [if_neg (fun e2 => h2 (h1.symm.trans e2)), if_neg (fun e2 => h2 (h1.symm.trans e2))]
    exact ⟨rfl, rfl⟩
  cases hi : isM N X0 with
  | false =>
    have e1 : goC N X0 id false = 2 := by unfold goC; rw [hi]; rfl
    obtain ⟨e2, e3⟩ := bad 2 e1 (by decide)
    rw [e1, e2, e3]
    repeat' (first | ((apply aL 56; refine JL_o (by exact aA en56 rfl (dT _ a n c N X0 (h.st hs) hx0)) rfl rfl ?_; rintro _ _ ⟨rfl, hE⟩; rw [hi]; have hs := hs.ext hE; (try simp only [zcc] at hs))) | (apply aH) | ((apply aC); exact zop; first | (exact rfl; exact rfl) | exact rfl) | (apply aQ) | (apply aB) | (apply aG; refine bB rfl gb ?_))
    refine aM Tryz.func37 rfl (.tmp rfl (.tmp rfl (.tmp rfl .nil))) ⟨none, 0, 0, rfl, hs.frm.ext, fE _ _ _⟩
  | true =>
  obtain ⟨p, x, rfl, hxp, hxu⟩ := isM_true.1 hi
  have hpl := (List.getElem?_eq_some_iff.1 hxp).1
  have hnd : cZ N ((p : Int) + 1) = x := cO hxp
  obtain ⟨r0, hr0, hrel0⟩ := hm.get hxp
  obtain ⟨u1, mT, u3, u4⟩ := fQ hrel0
  have mTl := mT.len
  have zT := (hz x (List.mem_of_getElem? hxp)).1
  have hTy := g.typ p x hxp hxu
  have hr0' : rs[((p : Int) + 1 - 1).toNat]? = some r0 := by rw [show ((p : Int) + 1 - 1).toNat = p by omega]; exact hr0
  have hbx : 0 ≤ (p : Int) + 1 - 1 ∧ (p : Int) + 1 - 1 < n := by omega
  obtain ⟨b0, o0, rfl⟩ := hr.sl.addr (by omega)
  have hgc : goC N ((p : Int) + 1) id false = (if id ∈ x.2.1 then ofC N (outT x.2.1 id) else 4) := by unfold goC; rw [hi, if_pos rfl, hnd]; rfl
  have hst : kB N ((p : Int) + 1) id false = false := by unfold kB; rw [hnd]; rfl
  obtain ⟨mb, hmem⟩ : ∃ b, decide (id ∈ x.2.1) = b := ⟨_, rfl⟩
  cases mb with
  | false =>
    have hin := of_decide_eq_false hmem
    rw [if_neg hin] at hgc
    obtain ⟨e2, e3⟩ := bad 4 hgc (by decide)
    rw [hgc, e2, e3]
    repeat' (first | ((apply aL 56; refine JL_o (by exact aA en56 rfl (dT _ (some ⟨b0, o0, none⟩) n c N ((p : Int) + 1) (h.st hs) hx0)) rfl rfl ?_; rintro _ _ ⟨rfl, hE⟩; rw [hi]; have hs := hs.ext hE; (try simp only [zcc] at hs))) | ((apply aL 29; refine JL_o (by exact aA en29 rfl (fD _ r0.2.1.1 r0.2.1.2.1 r0.2.1.2.2 x.2.1 id (mT.st hs))) rfl rfl ?_; rintro _ _ ⟨rfl, hE⟩; rw [hmem]; have hs := hs.ext hE; (try simp only [zcc] at hs))) | (apply aH) | ((first | (apply aC) | (apply bA; exact rfl; exact gb)); (first | (apply aT; first | exact aX (i := ((p : Int) + 1 - 1).toNat) (j := 1) (hr.st hs) hr0' rfl rfl rfl aI) | exact zop); first | (exact rfl; exact rfl) | exact rfl) | (apply aQ) | (apply aB) | (apply aN) | (apply aV) | (apply bK; (refine cY rfl gb rfl ?_)) | (apply aG; first | refine bB rfl gb ?_ | refine bD rfl gb ?_))
    refine aM Tryz.func37 rfl (.tmp rfl (.tmp rfl (.tmp rfl .nil))) ⟨none, 0, 0, rfl, hs.frm.ext, fE _ _ _⟩
  | true =>
  have hin := of_decide_eq_true hmem
  rw [if_pos hin] at hgc
  have hmm : id ∈ x.2.1 ↔ false = false := ⟨fun _ => rfl, fun _ => hin⟩
  obtain ⟨ZL, hZL⟩ : ∃ z, z = outT x.2.1 id := ⟨_, rfl⟩
  have hZo : ∀ u ∈ ZL, okId u := by rw [hZL]; exact (fun u hu => jW mT u (outT_mem.1 hu).1)
  have hZl : ZL.length ≤ 1000000 := by rw [hZL]; have := rY x.2.1 id; have := (typeB_iff.1 hTy).1; omega
  rw [← hZL] at hgc
  obtain ⟨oc, hoc⟩ : ∃ e, ofC N ZL = e := ⟨_, rfl⟩
  by_cases ho0 : oc = 0
  rotate_left
  · obtain ⟨e2, e3⟩ := bad oc (hgc.trans hoc) ho0
    rw [hgc, hoc, e2, e3]
    repeat' (first | ((apply aL 56; refine JL_o (by exact aA en56 rfl (dT _ (some ⟨b0, o0, none⟩) n c N ((p : Int) + 1) (h.st hs) hx0)) rfl rfl ?_; rintro _ _ ⟨rfl, hE⟩; rw [hi]; have hs := hs.ext hE; (try simp only [zcc] at hs))) | ((apply aL 29; refine JL_o (by exact aA en29 rfl (fD _ r0.2.1.1 r0.2.1.2.1 r0.2.1.2.2 x.2.1 id (mT.st hs))) rfl rfl ?_; rintro _ _ ⟨rfl, hE⟩; rw [hmem]; have hs := hs.ext hE; (try simp only [zcc] at hs))) | ((apply aL 102; refine JL_o (by exact aA yT rfl (gS _ r0.2.1.1 r0.2.1.2.1 r0.2.1.2.2 x.2.1 id (mT.st hs) (by omega))) rfl rfl ?_; rintro _ _ ⟨aw, cw, rfl, hf⟩; rw [← hZL] at hf; rw [← hZL]; have hs := hs.fresh hf; (try simp only [zcc] at hs))) | ((apply aL 34; refine JL_o (by exact aA en34 rfl (nB _ (some ⟨b0, o0, none⟩) aw n c ZL.length cw N ZL (h.st hs) (slU hs zmm hZo) hn)) rfl rfl ?_; rintro _ _ ⟨a4, m4, c4, rfl, hm4, hE, hsl4⟩; rw [hoc]; have hs := hs.ext hE; (try simp only [zcc] at hs))) | (apply aH) | ((first | (apply aC) | (apply bA; exact rfl; exact gb)); (first | (apply aT; first | exact aX (i := ((p : Int) + 1 - 1).toNat) (j := 1) (hr.st hs) hr0' rfl rfl rfl aI) | exact zop); first | (exact rfl; exact rfl) | exact rfl) | (apply aQ) | (apply aB) | (apply aN) | (apply aW) | (apply aV) | (apply bK; (refine cY rfl gb rfl ?_)) | (apply aG; first | refine aS rfl ob ?_ | refine bD rfl gb ?_))
    refine aM Tryz.func37 rfl (.tmp rfl (.tmp rfl (.tmp rfl .nil))) ⟨none, 0, 0, rfl, hs.frm.ext, fE _ _ _⟩
  have ho1 : ¬ oc ≠ 0 := fun e => e ho0
  have hgz : goC N ((p : Int) + 1) id false = 0 := by rw [hgc, hoc, ho0]
  have hsf : kB N ((p : Int) + 1) id false = false := hst
  obtain ⟨p2, q, x2, y, hg⟩ : ∃ (p2 q : Nat) (x2 y : NM), Gone N ((p : Int) + 1) id false p2 q x2 y := by
    rcases mK g hgz with ⟨h1, _⟩ | ⟨_, h1⟩
    · rw [hsf] at h1; cases h1
    · exact h1
  have hpp : p2 = p := by have := hg.np; omega
  rw [hpp] at hg
  have hxx : x2 = x := by have := hg.hx; rw [hxp] at this; exact (Option.some.inj this).symm
  rw [hxx] at hg
  clear hpp hxx
  obtain ⟨eL, eN⟩ := hg.goL hgz hsf
  obtain ⟨hlh, gL, _⟩ := hg.facts g
  have hof : ofL N (fZ false x.2.1 id) = ofL N ZL := by rw [hZL]; rfl
  have hofn : ofn N ZL = q + 1 := by rw [← hg.hq, hZL]; rfl
  have hp1 : (ofL N ZL)[p]? = some x := by rw [← hof]; exact hg.hp'
  have hq1 : (ofL N ZL)[q]? = some y := by rw [← hof]; exact hg.hy
  rw [hof] at eL
  have hz1 := wI (t := ZL) hz hZl
  obtain ⟨_, zx2, zx3⟩ := hz1 x (List.mem_of_getElem? hp1)
  obtain ⟨_, zy2, zy3⟩ := hz1 y (List.mem_of_getElem? hq1)
  have hne : q ≠ p := hlh
  have hlk := oG (N := ofL N ZL) (lo := q) (hi := p) (id := id) (a := x) (b := y) hp1 hq1
  rw [hgz, eN, eL]
  rw [show fF (ofL N ZL) (loP false p q) (hiP false p q) id = fF (ofL N ZL) q p id from rfl, hlk]
  repeat' (first | ((apply aL 56; refine JL_o (by exact aA en56 rfl (dT _ (some ⟨b0, o0, none⟩) n c N ((p : Int) + 1) (h.st hs) hx0)) rfl rfl ?_; rintro _ _ ⟨rfl, hE⟩; rw [hi]; have hs := hs.ext hE; (try simp only [zcc] at hs))) | ((apply aL 29; refine JL_o (by exact aA en29 rfl (fD _ r0.2.1.1 r0.2.1.2.1 r0.2.1.2.2 x.2.1 id (mT.st hs))) rfl rfl ?_; rintro _ _ ⟨rfl, hE⟩; rw [hmem]; have hs := hs.ext hE; (try simp only [zcc] at hs))) | ((apply aL 102; refine JL_o (by exact aA yT rfl (gS _ r0.2.1.1 r0.2.1.2.1 r0.2.1.2.2 x.2.1 id (mT.st hs) (by omega))) rfl rfl ?_; rintro _ _ ⟨aw, cw, rfl, hf⟩; rw [← hZL] at hf; rw [← hZL]; have hs := hs.fresh hf; (try simp only [zcc] at hs))) | ((apply aL 34; refine JL_o (by exact aA en34 rfl (nB _ (some ⟨b0, o0, none⟩) aw n c ZL.length cw N ZL (h.st hs) (slU hs zmm hZo) hn)) rfl rfl ?_; rintro _ _ ⟨a4, m4, c4, rfl, hm4, hE, hsl4⟩; rw [hoc, ho0, hofn, show (((q + 1 : Nat)) : Int) = (q : Int) + 1 from rfl]; have hs := hs.ext hE; have hE5 := hs.frm.ext; have hs := hs.rebase; obtain ⟨rs1, hr1, hm1⟩ := Sl.raw (D := gD) hsl4; obtain ⟨hsrc1, hpl1, _⟩ := hr1.srcF; have hl4 := hr1.len; have hl5 := hsl4.len; (try simp only [zcc] at hs))) | ((apply aF (t := 77); refine JL_o (by apply bJ; exact bF hs rfl (by omega) rfl) rfl rfl ?_; rintro _ _ ⟨b, rfl, hb, hs, hE⟩; have hs := hs.toRow 0 0 0 4 (xs := []) (Nat.le_refl _) (by unfold maxLen; omega) (by simp) rfl)) | ((apply aF (t := 79); refine JL_o (by apply bW; exact cF hs rfl rfl (Src.st hsrc1 hs) hpl1 rfl (by omega) (by unfold maxLen; omega)) rfl rfl ?_; rintro _ _ ⟨a5, c5, rfl, hs, hF, hnil⟩; rw [Nat.zero_add] at hs ⊢; rw [List.nil_append] at hs; have hs : St _ NoF _ [TabN a5 m4 c5 rs1] := hs.sel [0] (by decide); refine hold ?_)) | (apply aH) | ((first | (apply aC) | (apply bA; exact rfl; exact gb)); (first | (apply aT; first | exact aX (i := ((p : Int) + 1 - 1).toNat) (j := 1) (hr.st hs) hr0' rfl rfl rfl aI) | exact zop); first | (exact rfl; exact rfl) | exact rfl) | (apply aQ) | (apply aB) | (apply aN) | (apply aW) | (apply aV) | (apply bK; (refine cY rfl gb rfl ?_)) | (apply aG; first | refine aZ rfl ob ?_ | refine bD rfl gb ?_))
  obtain ⟨r, hrp, hrelp⟩ := hm1.get hp1
  obtain ⟨rq, hrq, hrelq⟩ := hm1.get hq1
  obtain ⟨rx1, rx2, rx3, rx4⟩ := fQ hrelp
  obtain ⟨ry1, ry2, ry3, ry4⟩ := fQ hrelq
  have hlp1 := rx3.len
  have hlp2 := rx4.len
  have hlq1 := ry3.len
  have hlq2 := ry4.len
  have hpl1 : p < rs1.length := (List.getElem?_eq_some_iff.1 hrp).1
  have hql1 : q < rs1.length := (List.getElem?_eq_some_iff.1 hrq).1
  have ip : ((p : Int) + 1 - 1).toNat = p := by omega
  have iq : ((q : Int) + 1 - 1).toNat = q := by omega
  have hbp : 0 ≤ (p : Int) + 1 - 1 ∧ (p : Int) + 1 - 1 < m4 := by omega
  have hbq : 0 ≤ (q : Int) + 1 - 1 ∧ (q : Int) + 1 - 1 < m4 := by omega
  obtain ⟨b, o, rfl⟩ := (hs.row a5 m4 c5).some (by omega)
  have hv1 : (encL cNd rs1)[((p : Int) + 1 - 1).toNat * 4 + 3]? = some (.slice r.2.2.2.1 r.2.2.2.2.1 r.2.2.2.2.2) := by
    rw [ip, show (encL cNd rs1)[p * 4 + 3]? = (cNd r)[3]? from dK (d := dRNd) rs1 p 3 r hrp (by show 3 < 4; omega)]; rfl
  have hs1 : ∀ (a : Option Addr) (m c : Nat), bR (encL cNd rs1) (((p : Int) + 1 - 1).toNat * 4 + 3) [.slice a m c] = encL cNd (rs1.set p (r.1, r.2.1, r.2.2.1, (a, m, c))) := fun a m c => by rw [ip]; exact kT rs1 p r a m c hrp
  have hlo : ∀ u, (rs1.set p u)[q]? = some rq := fun u => by rw [List.getElem?_set_ne (fun e => hne e.symm)]; exact hrq
  have hv2 : ∀ u, (encL cNd (rs1.set p u))[((q : Int) + 1 - 1).toNat * 4 + 2]? = some (.slice rq.2.2.1.1 rq.2.2.1.2.1 rq.2.2.1.2.2) := fun u => by
    rw [iq, show (encL cNd (rs1.set p u))[q * 4 + 2]? = (cNd rq)[2]? from dK (d := dRNd) (rs1.set p u) q 2 rq (hlo u) (by show 2 < 4; omega)]; rfl
  have hs2 : ∀ u (a : Option Addr) (m c : Nat), bR (encL cNd (rs1.set p u)) (((q : Int) + 1 - 1).toNat * 4 + 2) [.slice a m c] = encL cNd ((rs1.set p u).set q (rq.1, rq.2.1, (a, m, c), rq.2.2.2)) := fun u a m c => by rw [iq]; exact kU _ q rq a m c (hlo u)
  refine oQ ?_
  repeat' (first | ((apply aL 104; refine JL_o (by exact aA en104 rfl (rI _ r.2.2.2.1 r.2.2.2.2.1 r.2.2.2.2.2 x.2.2.2 (id, (q : Int) + 1) (rx4.st hs) (by omega))) rfl rfl ?_; rintro _ _ ⟨a6, c6, rfl, hf⟩; have hs := hs.fresh hf; (try simp only [zcc] at hs))) | ((apply aL 104; refine JL_o (by exact aA en104 rfl (rI _ rq.2.2.1.1 rq.2.2.1.2.1 rq.2.2.1.2.2 y.2.2.1 (id, (p : Int) + 1) (ry3.st hs) (by omega))) rfl rfl ?_; rintro _ _ ⟨a7, c7, rfl, hf⟩; have hs := hs.fresh hf; (try simp only [zcc] at hs))) | ((apply aU; refine JL_u (by apply aP; exact cD (b := b) (o := o) (off := ((p : Int) + 1 - 1).toNat * 4 + 3) (n := m4) (c := c5) (vs := [.slice a6 (wiS x.2.2.2 (id, (q : Int) + 1)).length c6]) hs rfl rfl rfl rfl (by simp [Value.oneCell']) (by show ((p : Int) + 1 - 1).toNat * 4 + 3 + 1 ≤ m4 * 4; omega)) rfl ?_; rintro _ _ ⟨hs, hF⟩; rw [hs1] at hs)) | ((apply aU; refine JL_u (by apply aP; exact cD (b := b) (o := o) (off := ((q : Int) + 1 - 1).toNat * 4 + 2) (n := m4) (c := c5) (vs := [.slice a7 (wiS y.2.2.1 (id, (p : Int) + 1)).length c7]) hs rfl rfl rfl rfl (by simp [Value.oneCell']) (by show ((q : Int) + 1 - 1).toNat * 4 + 2 + 1 ≤ m4 * 4; omega)) rfl ?_; rintro _ _ ⟨hs, hF⟩; rw [hs2] at hs)) | (apply aH) | ((apply aC); (first | (apply aT; first | exact dG (b := b) (o := o) (off := ((p : Int) + 1 - 1).toNat * 4 + 3) (n := m4) (c := c5) hs rfl hv1 aI | exact dG (b := b) (o := o) (off := ((q : Int) + 1 - 1).toNat * 4 + 2) (n := m4) (c := c5) hs rfl (hv2 _) aI) | exact zop); first | (exact rfl; exact rfl) | exact rfl) | (apply aQ) | (apply aB) | (apply aV) | (apply aG; refine bD rfl gb ?_))
  have hokh : ∀ u ∈ wiS x.2.2.2 (id, (q : Int) + 1), okT u := qH (mB rx4) (qR hid (by omega))
  have hokl : ∀ u ∈ wiS y.2.2.1 (id, (p : Int) + 1), okT u := qH (mB ry3) (qR hid (by omega))
  have hsl6 := slT hs (by repeat (first | exact List.Mem.head _ | apply List.Mem.tail) : RowT a6 _ c6 (wiS x.2.2.2 (id, (q : Int) + 1)) ∈ _) hokh
  have hsl7 := slT hs (by repeat (first | exact List.Mem.head _ | apply List.Mem.tail) : RowT a7 _ c7 (wiS y.2.2.1 (id, (p : Int) + 1)) ∈ _) hokl
  have hmean := ((hm1.st hs).set p (r := (r.1, r.2.1, r.2.2.1, (a6, _, c6))) (x := (x.1, x.2.1, x.2.2.1, wiS x.2.2.2 (id, (q : Int) + 1))) ⟨rx1, rx2.st hs, rx3.st hs, hsl6⟩).set q (r := (rq.1, rq.2.1, (a7, _, c7), rq.2.2.2)) (x := (y.1, y.2.1, wiS y.2.2.1 (id, (p : Int) + 1), y.2.2.2)) ⟨ry1, ry2.st hs, hsl7, ry4.st hs⟩
  refine aM Tryz.func37 rfl (.tmp rfl (.tmp rfl (.tmp rfl .nil))) ⟨some ⟨b, o, none⟩, m4, c5, rfl, hE5.trans hs.frm.ext, slNd hs (.tail _ (.tail _ (.head _))) hmean⟩
end Go.Eng
end
section
namespace Go.Eng
open Go.Proofs
set_option linter.unusedSimpArgs false
set_option linter.unusedVariables false
def goE (N : List NM) (E : List Ent) (n id : Int) (plus : Bool) : Int := if dP N E then goC N n id plus else 220
theorem iO {qs : List QN} {k : Nat} {q : QN} (h : ∀ u ∈ qs, okN u) (hq : okN q) : ∀ u ∈ qs.set k q, okN u := fun u hu => by
  rcases List.mem_or_eq_of_mem_set hu with e | e
  · exact h u e
  · rw [e]; exact hq
theorem oX {qs : List QN} {N : List NM} (h : qs.map fO = N) {k : Nat} {x : NM} (hx : N[k]? = some x) : ∃ q, qs[k]? = some q ∧ fO q = x := by
  rw [← h, List.getElem?_map] at hx
  cases hq : qs[k]? with
  | none => rw [hq] at hx; cases hx
  | some q => rw [hq] at hx; exact ⟨q, rfl, Option.some.inj hx⟩
theorem kE {w0 w : World} {F : Nat → Prop} {L A : List HP} {b : Nat} {o : Obj} (hs : St w0 F w (A ++ L)) (hb : Blk b o ∈ L) : ∀ k, (Star A).foot k → k ≠ b := fun k ⟨c, hc, hk⟩ e => by
  subst e
  exact (List.pairwise_append.1 hs.sep).2.2 c hc _ hb k hk rfl
theorem perm5a {α : Type} (a b c d e : α) (L : List α) : (a :: b :: c :: d :: e :: L).Perm (e :: b :: a :: c :: d :: L) := by
  classical
  rw [List.perm_iff_count]; intro x; simp only [List.count_cons]; omega
theorem perm5b {α : Type} (a b c d e : α) (L : List α) : (a :: b :: c :: d :: e :: L).Perm (e :: c :: a :: b :: d :: L) := by
  classical
  rw [List.perm_iff_count]; intro x; simp only [List.count_cons]; omega
theorem perm5c {α : Type} (a b c d e : α) (L : List α) : (a :: b :: c :: d :: e :: L).Perm (c :: b :: d :: e :: a :: L) := by
  classical
  rw [List.perm_iff_count]; intro x; simp only [List.count_cons]; omega
theorem perm5d {α : Type} (a b c d e : α) (L : List α) : (a :: b :: c :: d :: e :: L).Perm (c :: d :: b :: e :: a :: L) := by
  classical
  rw [List.perm_iff_count]; intro x; simp only [List.count_cons]; omega
theorem aAo (N : List NM) (t : List Int) : (ofL N t).length ≤ N.length + 1 := by
  unfold ofL
  by_cases h : ofC N t = 0
  · rw [if_pos h]
    by_cases h2 : eX N t ≠ 0
    · rw [if_pos h2]; omega
    · rw [if_neg h2, wK (fU N)]
      have := fU N
      split <;> omega
  · rw [if_neg h]; simp
theorem gF {w : World} {b : Nat} {o : Obj} (h : (Blk b o).holds w) : w.heap[b]? = some o := h
theorem rR {N : List NM} (g : GR N) {i : Nat} {x : NM} {plus : Bool} {s : ST} (hs : lX N i x plus s) {q : Nat} {y : NM} {id : Int} (hy : N[q]? = some y) (hu : y.1 = true) (ht : y.2.1 = fZ plus x.2.1 id) (e : s.1 = id) : s = (id, (q : Int) + 1) := by
  obtain ⟨_, j, y2, e1, e2, e3, e4, _⟩ := hs
  have : j = q := g.uniq j q y2 y e2 hy e3 hu (by rw [e4, ht, e])
  rw [this] at e1
  exact Prod.ext e e1
theorem sB {q : QN} {x : NM} (h : fO q = x) : q.1 = x.1 ∧ q.2.1.2 = x.2.1 ∧ q.2.2.1.2 = x.2.2.1 ∧ q.2.2.2.2 = x.2.2.2 := by
  subst h; exact ⟨rfl, rfl, rfl, rfl⟩
attribute [local irreducible] Hold J JL JD JX JXat OpR OpG Ret RetV Is Blk Row
set_option maxRecDepth 100000
set_option maxHeartbeats 2000000
theorem vL (w : World) (a a2 a3 : Option Addr) (n c n2 c2 n3 c3 : Nat) (N : List NM) (E : List Ent) (t : List Int) (h : Sl eD All w a n c N) (hE0 : Sl dEnt All w a2 n2 c2 E) (ht : Sl dId All w a3 n3 c3 t) (hn : n ≤ 900000) (hn2 : n2 ≤ 1048576) (hz : szN N) (hc : dP N E = true) (ho : ofC N t ≠ 0) :
    Ret Tryz.prog 99 #[.agg #[.slice a n c, .slice a2 n2 c2], .slice a3 n3 c3] w fun v w' => v = .tuple #[.agg #[.slice none 0 0, .slice none 0 0], .int .i64 0, .int .i64 (ofC N t)] ∧ Ext w w' :=
  (gof_r w a a2 a3 n c n2 c2 n3 c3 N E t h hE0 ht hn hn2 hz hc).mono fun v w' r => by
    rcases r with ⟨_, r⟩ | ⟨e, _⟩
    · exact r
    · exact absurd e ho
theorem aA5 (w : World) (a a2 a3 : Option Addr) (n c n2 c2 n3 c3 : Nat) (N : List NM) (E : List Ent) (t : List Int) (h : Sl eD All w a n c N) (hE0 : Sl dEnt All w a2 n2 c2 E) (ht : Sl dId All w a3 n3 c3 t) (hn : n ≤ 900000) (hn2 : n2 ≤ 1048576) (hz : szN N) (hc : dP N E = true) (ho : ofC N t = 0) :
    Ret Tryz.prog 99 #[.agg #[.slice a n c, .slice a2 n2 c2], .slice a3 n3 c3] w fun v w' => ∃ a' m' c' a2' m2 c2', v = .tuple #[.agg #[.slice a' m' c', .slice a2' m2 c2'], .int .i64 (ofn N t), .int .i64 0] ∧ m' ≤ n + 1 ∧ GOut w w' (ofL N t) a' m' c' a2' m2 c2' :=
  (gof_r w a a2 a3 n c n2 c2 n3 c3 N E t h hE0 ht hn hn2 hz hc).mono fun v w' r => by
    rcases r with ⟨e, _⟩ | ⟨_, r⟩
    · exact absurd ho e
    · exact r
theorem aA1 (w0 : World) (F : Nat → Prop) (w : World) (L : List HP) (b o n c k p : Nat) (qs : List QN) (q : QN) (x : NM) (id to : Int) (bid : Nat) (hk : k = p) (hs : St w0 F w (OwnN qs :: TabN (some ⟨b, o, none⟩) n c (qs.map rawN) :: L)) (hbl : Blk bid (.cells #[.int .u64 id] 29 (0, 0)) ∈ L)
    (hq : qs[p]? = some q) (hqm : fO q = x) (hqo : okN q) (hid : okId id) (hto : inK .i64 to) (hrise : iZ x.2.2.1) (hsame : ∀ s ∈ x.2.2.1, s.1 = id → s = (id, to)) (hln : x.2.2.1.length ≤ 1000000) :
    Ret Tryz.prog 170 #[.pointer (some ⟨b, o + k * 4 + 2, none⟩), .int .i64 to, ptr bid] w fun _ w' => ∃ qn : QN, (fO qn = (x.1, x.2.1, wiS x.2.2.1 (id, to), x.2.2.2) ∧ okN qn) ∧ St w0 F w' (OwnN (qs.set p qn) :: TabN (some ⟨b, o, none⟩) n c ((qs.set p qn).map rawN) :: L) := by
  subst hk
  obtain ⟨hm1, hm2, hm3, hm4⟩ := sB hqm
  have hp := (List.getElem?_eq_some_iff.1 hq).1
  have hlt : (encL cNd (qs.map rawN)).length = n * 4 := (hs.row (some ⟨b, o, none⟩) n c).len
  have hll : qs.length = n := by rw [sL, List.length_map] at hlt; omega
  have hb : w.heap[bid]? = some (.cells #[.int .u64 id] 29 (0, 0)) := gF (hs.all _ (List.mem_cons_of_mem _ (List.mem_cons_of_mem _ hbl)))
  have h1 := St.unpackN (St.takeN hq hs)
  have h2 : St w0 F w ([TabN (some ⟨b, o, none⟩) n c (qs.map rawN), row2 q] ++ ([row1 q, row3 q, OwnN (qs.take k ++ qs.drop (k + 1))] ++ L)) := h1.perm (perm5a _ _ _ _ _ _)
  obtain ⟨⟨o1, o2⟩, ⟨o3, o4⟩, ⟨o5, o6⟩⟩ := hqo
  have hraw : (qs.map rawN)[k]? = some (rawN q) := by rw [List.getElem?_map, hq]; rfl
  have hcell : (encL cNd (qs.map rawN))[k * 4 + 2]? = some (.slice q.2.2.1.1.1 q.2.2.1.1.2.1 q.2.2.1.1.2.2) := by
    rw [show (encL cNd (qs.map rawN))[k * 4 + 2]? = (cNd (rawN q))[2]? from dK (d := dRNd) (qs.map rawN) k 2 (rawN q) hraw (by show 2 < 4; omega)]; rfl
  have hc := gput_r w b o n c (k * 4 + 2) (encL cNd (qs.map rawN)) q.2.2.1.1.1 q.2.2.1.1.2.1 q.2.2.1.1.2.2 q.2.2.1.2 id to bid (St.held (A := [_, _]) h2) hcell (by omega) o3.symm o4 hid hto (by rw [hm3]; exact hrise) (by rw [hm3]; exact hsame) (by rw [o3, hm3]; exact hln) hb (kE h2 (List.mem_append_right _ hbl))
  refine (show Ret Tryz.prog 170 #[.pointer (some ⟨b, o + k * 4 + 2, none⟩), .int .i64 to, ptr bid] w _ from hc).mono ?_
  rintro _ w' ⟨ra', rc', ht⟩
  have h3 := St.take (A := [_, _]) (A' := [_, _]) h2 ht
  rw [hm3] at h3
  refine ⟨(q.1, q.2.1, ((ra', (wiS x.2.2.1 (id, to)).length, rc'), wiS x.2.2.1 (id, to)), q.2.2.2), ⟨?_, ?_⟩, ?_⟩
  · exact nm_eq.2 ⟨hm1, hm2, rfl, hm4⟩
  · exact ⟨⟨o1, o2⟩, ⟨rfl, qH (hm3 ▸ o4) ⟨hid, hto⟩⟩, ⟨o5, o6⟩⟩
  · have h4 : St w0 F w' (row1 q :: RowT ra' (wiS x.2.2.1 (id, to)).length rc' (wiS x.2.2.1 (id, to)) :: row3 q :: OwnN (qs.take k ++ qs.drop (k + 1)) :: Row (some ⟨b, o, none⟩) n c 79 4 (bR (encL cNd (qs.map rawN)) (k * 4 + 2) [.slice ra' (wiS x.2.2.1 (id, to)).length rc']) :: L) := h3.perm (perm5c _ _ _ _ _ _)
    have h5 := St.putN (qn := (q.1, q.2.1, ((ra', (wiS x.2.2.1 (id, to)).length, rc'), wiS x.2.2.1 (id, to)), q.2.2.2)) hp (St.packN (q := (q.1, q.2.1, ((ra', (wiS x.2.2.1 (id, to)).length, rc'), wiS x.2.2.1 (id, to)), q.2.2.2)) h4)
    rw [kU (qs.map rawN) k (rawN q) ra' _ rc' hraw] at h5
    rw [List.map_set]
    exact h5
theorem aA2 (w0 : World) (F : Nat → Prop) (w : World) (L : List HP) (b o n c k p : Nat) (qs : List QN) (q : QN) (x : NM) (id to : Int) (bid : Nat) (hk : k = p) (hs : St w0 F w (OwnN qs :: TabN (some ⟨b, o, none⟩) n c (qs.map rawN) :: L)) (hbl : Blk bid (.cells #[.int .u64 id] 29 (0, 0)) ∈ L)
    (hq : qs[p]? = some q) (hqm : fO q = x) (hqo : okN q) (hid : okId id) (hto : inK .i64 to) (hrise : iZ x.2.2.2) (hsame : ∀ s ∈ x.2.2.2, s.1 = id → s = (id, to)) (hln : x.2.2.2.length ≤ 1000000) :
    Ret Tryz.prog 170 #[.pointer (some ⟨b, o + k * 4 + 3, none⟩), .int .i64 to, ptr bid] w fun _ w' => ∃ qn : QN, (fO qn = (x.1, x.2.1, x.2.2.1, wiS x.2.2.2 (id, to)) ∧ okN qn) ∧ St w0 F w' (OwnN (qs.set p qn) :: TabN (some ⟨b, o, none⟩) n c ((qs.set p qn).map rawN) :: L) := by
  subst hk
  obtain ⟨hm1, hm2, hm3, hm4⟩ := sB hqm
  have hp := (List.getElem?_eq_some_iff.1 hq).1
  have hlt : (encL cNd (qs.map rawN)).length = n * 4 := (hs.row (some ⟨b, o, none⟩) n c).len
  have hll : qs.length = n := by rw [sL, List.length_map] at hlt; omega
  have hb : w.heap[bid]? = some (.cells #[.int .u64 id] 29 (0, 0)) := gF (hs.all _ (List.mem_cons_of_mem _ (List.mem_cons_of_mem _ hbl)))
  have h1 := St.unpackN (St.takeN hq hs)
  have h2 : St w0 F w ([TabN (some ⟨b, o, none⟩) n c (qs.map rawN), row3 q] ++ ([row1 q, row2 q, OwnN (qs.take k ++ qs.drop (k + 1))] ++ L)) := h1.perm (perm5b _ _ _ _ _ _)
  obtain ⟨⟨o1, o2⟩, ⟨o3, o4⟩, ⟨o5, o6⟩⟩ := hqo
  have hraw : (qs.map rawN)[k]? = some (rawN q) := by rw [List.getElem?_map, hq]; rfl
  have hcell : (encL cNd (qs.map rawN))[k * 4 + 3]? = some (.slice q.2.2.2.1.1 q.2.2.2.1.2.1 q.2.2.2.1.2.2) := by
    rw [show (encL cNd (qs.map rawN))[k * 4 + 3]? = (cNd (rawN q))[3]? from dK (d := dRNd) (qs.map rawN) k 3 (rawN q) hraw (by show 3 < 4; omega)]; rfl
  have hc := gput_r w b o n c (k * 4 + 3) (encL cNd (qs.map rawN)) q.2.2.2.1.1 q.2.2.2.1.2.1 q.2.2.2.1.2.2 q.2.2.2.2 id to bid (St.held (A := [_, _]) h2) hcell (by omega) o5.symm o6 hid hto (by rw [hm4]; exact hrise) (by rw [hm4]; exact hsame) (by rw [o5, hm4]; exact hln) hb (kE h2 (List.mem_append_right _ hbl))
  refine (show Ret Tryz.prog 170 #[.pointer (some ⟨b, o + k * 4 + 3, none⟩), .int .i64 to, ptr bid] w _ from hc).mono ?_
  rintro _ w' ⟨ra', rc', ht⟩
  have h3 := St.take (A := [_, _]) (A' := [_, _]) h2 ht
  rw [hm4] at h3
  refine ⟨(q.1, q.2.1, q.2.2.1, ((ra', (wiS x.2.2.2 (id, to)).length, rc'), wiS x.2.2.2 (id, to))), ⟨?_, ?_⟩, ?_⟩
  · exact nm_eq.2 ⟨hm1, hm2, hm3, rfl⟩
  · exact ⟨⟨o1, o2⟩, ⟨o3, o4⟩, ⟨rfl, qH (hm4 ▸ o6) ⟨hid, hto⟩⟩⟩
  · have h4 : St w0 F w' (row1 q :: row2 q :: RowT ra' (wiS x.2.2.2 (id, to)).length rc' (wiS x.2.2.2 (id, to)) :: OwnN (qs.take k ++ qs.drop (k + 1)) :: Row (some ⟨b, o, none⟩) n c 79 4 (bR (encL cNd (qs.map rawN)) (k * 4 + 3) [.slice ra' (wiS x.2.2.2 (id, to)).length rc']) :: L) := h3.perm (perm5d _ _ _ _ _ _)
    have h5 := St.putN (qn := (q.1, q.2.1, q.2.2.1, ((ra', (wiS x.2.2.2 (id, to)).length, rc'), wiS x.2.2.2 (id, to)))) hp (St.packN (q := (q.1, q.2.1, q.2.2.1, ((ra', (wiS x.2.2.2 (id, to)).length, rc'), wiS x.2.2.2 (id, to)))) h4)
    rw [kT (qs.map rawN) k (rawN q) ra' _ rc' hraw] at h5
    rw [List.map_set]
    exact h5
theorem aA3 (w : World) (a a2 : Option Addr) (n c n2 c2 : Nat) (N : List NM) (E : List Ent) (X0 id : Int) (h : Sl eD All w a n c N) (hE0 : Sl dEnt All w a2 n2 c2 E) (hn : n ≤ 900000) (hn2 : n2 ≤ 1048576) (hz : szN N) (hx0 : inK .i64 X0) (hid : okId id) :
    Ret Tryz.prog 100 #[.agg #[.slice a n c, .slice a2 n2 c2], .int .i64 X0, .int .u64 id, .bool true, .func (.func 45) #[] #[]] w fun v w' =>
      (goE N E X0 id true ≠ 0 ∧ v = .tuple #[.agg #[.slice none 0 0, .slice none 0 0], .int .i64 0, .int .i64 (goE N E X0 id true)] ∧ Ext w w') ∨
      (goE N E X0 id true = 0 ∧ ∃ a' m' c' a2' m2 c2', v = .tuple #[.agg #[.slice a' m' c', .slice a2' m2 c2'], .int .i64 (gon N X0 id true), .int .i64 0] ∧ m' ≤ n + 1 ∧ GOut w w' (goL N X0 id true) a' m' c' a2' m2 c2') := by
  refine bI (l := [_, _, _, _, _]) Tryz.func100 rfl Tryz.ntmps100 (by simp) ?_
  have hs := St.init w
  have hl := h.len
  have hl2 := hE0.len
  obtain ⟨rs, hr, hm⟩ := Sl.raw (D := gD) h
  cases hc : dP N E with
  | false =>
    have he := iQ hc
    have eE : goE N E X0 id true = 220 := by unfold goE; rw [hc]; rfl
    rw [eE]
    repeat' (first | ((apply aL 46; refine JL_o (by exact aA en46 rfl (dQ _ a a2 n c n2 c2 N E (h.st hs) (hE0.st hs) hn2 hz)) rfl rfl ?_; rintro _ _ ⟨rfl, hE⟩; rw [he]; have hs := hs.ext hE; (try simp only [zcc] at hs))) | (apply aH) | ((apply aC); exact zop; first | (exact rfl; exact rfl) | exact rfl) | (apply aQ) | (apply aB) | (apply aF (t := 5); refine JL_o (by apply bN; exact bC hs rfl) rfl rfl ?_; rintro _ _ ⟨b5, rfl, hb5, hs, hE⟩) | (apply aF (t := 7); refine JL_o (by apply bN; exact bC hs rfl) rfl rfl ?_; rintro _ _ ⟨b7, rfl, hb7, hs, hE⟩) | (apply aF (t := 10); refine JL_o (by apply aR; exact aJ hs) rfl rfl ?_; rintro _ _ ⟨b10, rfl, hb10, hs, hE⟩) | (apply aU; refine JL_u (by apply aP; exact aK hs rfl rfl rfl) rfl ?_; rintro _ _ ⟨hs, hF⟩) | (apply aG; refine aS rfl ob ?_))
    refine aM Tryz.func100 rfl (.agg' hs rfl rfl (.tmp rfl (.tmp rfl .nil))) (.inl ⟨by decide, rfl, hs.frm.ext⟩)
  | true =>
  have he := nG hc
  obtain ⟨g, hcE, hA⟩ := check_iff.1 hc
  have eE : goE N E X0 id true = goC N X0 id true := by unfold goE; rw [hc]; rfl
  rw [eE]
  cases hi : isM N X0 with
  | false =>
    have e1 : goC N X0 id true = 2 := by unfold goC; rw [hi]; rfl
    rw [e1]
    repeat' (first | ((apply aL 46; refine JL_o (by exact aA en46 rfl (dQ _ a a2 n c n2 c2 N E (h.st hs) (hE0.st hs) hn2 hz)) rfl rfl ?_; rintro _ _ ⟨rfl, hE⟩; rw [he]; have hs := hs.ext hE; (try simp only [zcc] at hs))) | ((apply aL 105; refine JL_o (by exact aA eO rfl (is_r _ a a2 n c n2 c2 N X0 (h.st hs) hx0)) rfl rfl ?_; rintro _ _ ⟨rfl, hE⟩; rw [hi]; have hs := hs.ext hE; (try simp only [zcc] at hs))) | (apply aH) | ((apply aC); exact zop; first | (exact rfl; exact rfl) | exact rfl) | (apply aQ) | (apply aB) | (apply aV) | (apply aF (t := 5); refine JL_o (by apply bN; exact bC hs rfl) rfl rfl ?_; rintro _ _ ⟨b5, rfl, hb5, hs, hE⟩) | (apply aF (t := 7); refine JL_o (by apply bN; exact bC hs rfl) rfl rfl ?_; rintro _ _ ⟨b7, rfl, hb7, hs, hE⟩) | (apply aF (t := 10); refine JL_o (by apply aR; exact aJ hs) rfl rfl ?_; rintro _ _ ⟨b10, rfl, hb10, hs, hE⟩) | (apply aU; refine JL_u (by apply aP; exact aK hs rfl rfl rfl) rfl ?_; rintro _ _ ⟨hs, hF⟩) | (apply aG; first | refine aZ rfl ob ?_ | refine bB rfl gb ?_))
    refine aM Tryz.func100 rfl (.agg' hs rfl rfl (.tmp rfl (.tmp rfl .nil))) (.inl ⟨by decide, rfl, hs.frm.ext⟩)
  | true =>
  obtain ⟨p, x, rfl, hxp, hxu⟩ := isM_true.1 hi
  have hpl := (List.getElem?_eq_some_iff.1 hxp).1
  have hnd : cZ N ((p : Int) + 1) = x := cO hxp
  obtain ⟨r0, hr0, hrel0⟩ := hm.get hxp
  obtain ⟨u1, mT, u3, u4⟩ := fQ hrel0
  have mTl := mT.len
  have hTy := g.typ p x hxp hxu
  obtain ⟨hT12, hTr, _⟩ := typeB_iff.1 hTy
  have hr0' : rs[((p : Int) + 1 - 1).toNat]? = some r0 := by rw [show ((p : Int) + 1 - 1).toNat = p by omega]; exact hr0
  have hbx : 0 ≤ (p : Int) + 1 - 1 ∧ (p : Int) + 1 - 1 < n := by omega
  obtain ⟨b0, o0, rfl⟩ := hr.sl.addr (by omega)
  have hgc : goC N ((p : Int) + 1) id true = (if mayM id then (if id ∈ x.2.1 then 0 else if x.2.1.length = 12 then 6 else ofC N (wiT x.2.1 id)) else 2) := by unfold goC; rw [hi, if_pos rfl, hnd]; rfl
  have hst : kB N ((p : Int) + 1) id true = decide (id ∈ x.2.1) := by unfold kB; rw [hnd]; rfl
  cases hmay : mayM id with
  | false =>
    rw [hmay, if_neg (by decide)] at hgc
    have hwC : gP x.2.1 id = 2 := by unfold gP; rw [if_pos hTy, if_neg (by rw [hmay]; decide)]
    have hwL : fX x.2.1 id = [] := by unfold fX; rw [hwC]; rfl
    rw [hgc]
    repeat' (first | ((apply aL 46; refine JL_o (by exact aA en46 rfl (dQ _ (some ⟨b0, o0, none⟩) a2 n c n2 c2 N E (h.st hs) (hE0.st hs) hn2 hz)) rfl rfl ?_; rintro _ _ ⟨rfl, hE⟩; rw [he]; have hs := hs.ext hE; (try simp only [zcc] at hs))) | ((apply aL 105; refine JL_o (by exact aA eO rfl (is_r _ (some ⟨b0, o0, none⟩) a2 n c n2 c2 N ((p : Int) + 1) (h.st hs) hx0)) rfl rfl ?_; rintro _ _ ⟨rfl, hE⟩; rw [hi]; have hs := hs.ext hE; (try simp only [zcc] at hs))) | ((apply aF (t := 43); refine JL_o (bX rfl rfl (Ret.value (cap := #[]) en45 (lU _ r0.2.1.1 r0.2.1.2.1 r0.2.1.2.2 x.2.1 id (mT.st hs) hid))) rfl rfl ?_; rintro _ _ ⟨aw, rfl, hf⟩; rw [hwL] at hf; rw [hwC, hwL]; have hs := hs.fresh hf; (try simp only [zcc] at hs))) | (apply aH) | ((apply aC); (first | (apply aT; exact aX (i := ((p : Int) + 1 - 1).toNat) (j := 1) (hr.st hs) hr0' rfl rfl rfl aI) | exact zop); first | (exact rfl; exact rfl) | exact rfl) | (apply aQ) | (apply aB) | (apply aV) | (apply aF (t := 5); refine JL_o (by apply bN; exact bC hs rfl) rfl rfl ?_; rintro _ _ ⟨b5, rfl, hb5, hs, hE⟩) | (apply aF (t := 7); refine JL_o (by apply bN; exact bC hs rfl) rfl rfl ?_; rintro _ _ ⟨b7, rfl, hb7, hs, hE⟩) | (apply aF (t := 10); refine JL_o (by apply aR; exact aJ hs) rfl rfl ?_; rintro _ _ ⟨b10, rfl, hb10, hs, hE⟩) | (apply aU; refine JL_u (by apply aP; exact aK hs rfl rfl rfl) rfl ?_; rintro _ _ ⟨hs, hF⟩) | (apply aG; first | refine aS rfl ob ?_ | refine aZ rfl ob ?_ | refine bD rfl gb ?_))
    refine aM Tryz.func100 rfl (.agg' hs rfl rfl (.tmp rfl (.tmp rfl .nil))) (.inl ⟨by decide, rfl, hs.frm.ext⟩)
  | true =>
  rw [hmay, if_pos rfl] at hgc
  by_cases hin : id ∈ x.2.1
  · rw [if_pos hin] at hgc
    have hins : insT x.2.1 id = x.2.1 := by unfold insT; rw [if_pos hin]
    have hwC : gP x.2.1 id = 0 := by unfold gP; rw [if_pos hTy, if_pos hmay, hins, if_neg (by omega)]
    have hwL : fX x.2.1 id = x.2.1 := by unfold fX; rw [if_pos hwC, hins]
    have e2 : gon N ((p : Int) + 1) id true = (p : Int) + 1 := by unfold gon; rw [if_pos hgc, if_pos (by rw [hst, decide_eq_true hin])]
    have e3 : goL N ((p : Int) + 1) id true = N := by unfold goL; rw [if_pos hgc, if_pos (by rw [hst, decide_eq_true hin])]
    have heq : decide (x.2.1 = x.2.1) = true := decide_eq_true rfl
    rw [hgc, e2, e3]
    repeat' (first | ((apply aL 46; refine JL_o (by exact aA en46 rfl (dQ _ (some ⟨b0, o0, none⟩) a2 n c n2 c2 N E (h.st hs) (hE0.st hs) hn2 hz)) rfl rfl ?_; rintro _ _ ⟨rfl, hE⟩; rw [he]; have hs := hs.ext hE; (try simp only [zcc] at hs))) | ((apply aL 105; refine JL_o (by exact aA eO rfl (is_r _ (some ⟨b0, o0, none⟩) a2 n c n2 c2 N ((p : Int) + 1) (h.st hs) hx0)) rfl rfl ?_; rintro _ _ ⟨rfl, hE⟩; rw [hi]; have hs := hs.ext hE; (try simp only [zcc] at hs))) | ((apply aF (t := 43); refine JL_o (bX rfl rfl (Ret.value (cap := #[]) en45 (lU _ r0.2.1.1 r0.2.1.2.1 r0.2.1.2.2 x.2.1 id (mT.st hs) hid))) rfl rfl ?_; rintro _ _ ⟨aw, rfl, hf⟩; rw [hwL] at hf; rw [hwC, hwL]; have hs := hs.fresh hf; (try simp only [zcc] at hs))) | ((apply aL 43; refine JL_o (by exact aA en43 rfl (dY _ aw r0.2.1.1 x.2.1.length x.2.1.length r0.2.1.2.1 r0.2.1.2.2 x.2.1 x.2.1 (slU hs zmm (jW mT)) (mT.st hs))) rfl rfl ?_; rintro _ _ ⟨rfl, hE⟩; rw [heq]; have hs := hs.ext hE; (try simp only [zcc] at hs))) | ((apply aL 107; refine JL_o (by exact aA aBl rfl (tY _ (some ⟨b0, o0, none⟩) a2 n c n2 c2 N E (h.st hs) (hE0.st hs) (by omega) hn2 hz (jD hcE))) rfl rfl ?_; rintro _ _ ⟨qs, rs', a', a2', ⟨hqm, hqo⟩, rfl, hf⟩; have hs := hs.fresh hf; (try simp only [zcc] at hs))) | (apply aH) | ((apply aC); (first | (apply aT; exact aX (i := ((p : Int) + 1 - 1).toNat) (j := 1) (hr.st hs) hr0' rfl rfl rfl aI) | exact zop); first | (exact rfl; exact rfl) | exact rfl) | (apply aQ) | (apply aB) | (apply aV) | (apply aF (t := 5); refine JL_o (by apply bN; exact bC hs rfl) rfl rfl ?_; rintro _ _ ⟨b5, rfl, hb5, hs, hE⟩) | (apply aF (t := 7); refine JL_o (by apply bN; exact bC hs rfl) rfl rfl ?_; rintro _ _ ⟨b7, rfl, hb7, hs, hE⟩) | (apply aF (t := 10); refine JL_o (by apply aR; exact aJ hs) rfl rfl ?_; rintro _ _ ⟨b10, rfl, hb10, hs, hE⟩) | (apply aU; refine JL_u (by apply aP; exact aK hs rfl rfl rfl) rfl ?_; rintro _ _ ⟨hs, hF⟩) | (apply aG; first | refine aZ rfl ob ?_ | refine bB rfl gb ?_ | refine bD rfl gb ?_))
    refine aM Tryz.func100 rfl (.agg' hs rfl rfl (.tmp rfl (.tmp rfl .nil))) (.inr ⟨rfl, a', n, n, a2', n2, n2, rfl, by omega, qs, E, rs', ⟨hqm, hqo⟩, ⟨hcE, hA⟩, ⟨hl, hl2, hn2⟩, hs.out (by simp)⟩)
  rw [if_neg hin] at hgc
  by_cases h12 : x.2.1.length = 12
  · rw [if_pos h12] at hgc
    have hwC : gP x.2.1 id = 6 := by unfold gP; rw [if_pos hTy, if_pos hmay, if_pos (by rw [pI hTr, mW hin]; omega)]
    have hwL : fX x.2.1 id = [] := by unfold fX; rw [hwC]; rfl
    rw [hgc]
    repeat' (first | ((apply aL 46; refine JL_o (by exact aA en46 rfl (dQ _ (some ⟨b0, o0, none⟩) a2 n c n2 c2 N E (h.st hs) (hE0.st hs) hn2 hz)) rfl rfl ?_; rintro _ _ ⟨rfl, hE⟩; rw [he]; have hs := hs.ext hE; (try simp only [zcc] at hs))) | ((apply aL 105; refine JL_o (by exact aA eO rfl (is_r _ (some ⟨b0, o0, none⟩) a2 n c n2 c2 N ((p : Int) + 1) (h.st hs) hx0)) rfl rfl ?_; rintro _ _ ⟨rfl, hE⟩; rw [hi]; have hs := hs.ext hE; (try simp only [zcc] at hs))) | ((apply aF (t := 43); refine JL_o (bX rfl rfl (Ret.value (cap := #[]) en45 (lU _ r0.2.1.1 r0.2.1.2.1 r0.2.1.2.2 x.2.1 id (mT.st hs) hid))) rfl rfl ?_; rintro _ _ ⟨aw, rfl, hf⟩; rw [hwL] at hf; rw [hwC, hwL]; have hs := hs.fresh hf; (try simp only [zcc] at hs))) | (apply aH) | ((apply aC); (first | (apply aT; exact aX (i := ((p : Int) + 1 - 1).toNat) (j := 1) (hr.st hs) hr0' rfl rfl rfl aI) | exact zop); first | (exact rfl; exact rfl) | exact rfl) | (apply aQ) | (apply aB) | (apply aV) | (apply aF (t := 5); refine JL_o (by apply bN; exact bC hs rfl) rfl rfl ?_; rintro _ _ ⟨b5, rfl, hb5, hs, hE⟩) | (apply aF (t := 7); refine JL_o (by apply bN; exact bC hs rfl) rfl rfl ?_; rintro _ _ ⟨b7, rfl, hb7, hs, hE⟩) | (apply aF (t := 10); refine JL_o (by apply aR; exact aJ hs) rfl rfl ?_; rintro _ _ ⟨b10, rfl, hb10, hs, hE⟩) | (apply aU; refine JL_u (by apply aP; exact aK hs rfl rfl rfl) rfl ?_; rintro _ _ ⟨hs, hF⟩) | (apply aG; first | refine aS rfl ob ?_ | refine aZ rfl ob ?_ | refine bD rfl gb ?_))
    refine aM Tryz.func100 rfl (.agg' hs rfl rfl (.tmp rfl (.tmp rfl .nil))) (.inl ⟨by decide, rfl, hs.frm.ext⟩)
  rw [if_neg h12] at hgc
  obtain ⟨ZL, hZL⟩ : ∃ z, z = wiT x.2.1 id := ⟨_, rfl⟩
  have hwC : gP x.2.1 id = 0 := by unfold gP; rw [if_pos hTy, if_pos hmay, if_neg (by rw [pI hTr, mW hin]; omega)]
  have hwL : fX x.2.1 id = ZL := by unfold fX; rw [if_pos hwC, pI hTr, hZL]
  have hZo : ∀ u ∈ ZL, okId u := by rw [hZL]; exact (fun u hu => (wiT_mem.1 hu).elim (fun e => e ▸ hid) (fun e => jW mT u e))
  have hZl : ZL.length ≤ 1000000 := by rw [hZL, mW hin]; omega
  have hne0 : ZL ≠ x.2.1 := fun e => hin (by rw [← e, hZL]; exact wiT_mem.2 (.inl rfl))
  have hsf : kB N ((p : Int) + 1) id true = false := by rw [hst, decide_eq_false hin]
  rw [← hZL] at hgc
  have hzeq : decide (ZL = x.2.1) = false := decide_eq_false hne0
  obtain ⟨oc, hoc⟩ : ∃ e, ofC N ZL = e := ⟨_, rfl⟩
  by_cases ho0 : oc ≠ 0
  · rw [hgc, hoc]
    repeat' (first | ((apply aL 46; refine JL_o (by exact aA en46 rfl (dQ _ (some ⟨b0, o0, none⟩) a2 n c n2 c2 N E (h.st hs) (hE0.st hs) hn2 hz)) rfl rfl ?_; rintro _ _ ⟨rfl, hE⟩; rw [he]; have hs := hs.ext hE; (try simp only [zcc] at hs))) | ((apply aL 105; refine JL_o (by exact aA eO rfl (is_r _ (some ⟨b0, o0, none⟩) a2 n c n2 c2 N ((p : Int) + 1) (h.st hs) hx0)) rfl rfl ?_; rintro _ _ ⟨rfl, hE⟩; rw [hi]; have hs := hs.ext hE; (try simp only [zcc] at hs))) | ((apply aF (t := 43); refine JL_o (bX rfl rfl (Ret.value (cap := #[]) en45 (lU _ r0.2.1.1 r0.2.1.2.1 r0.2.1.2.2 x.2.1 id (mT.st hs) hid))) rfl rfl ?_; rintro _ _ ⟨aw, rfl, hf⟩; rw [hwL] at hf; rw [hwC, hwL]; have hs := hs.fresh hf; (try simp only [zcc] at hs))) | ((apply aL 43; refine JL_o (by exact aA en43 rfl (dY _ aw r0.2.1.1 ZL.length ZL.length r0.2.1.2.1 r0.2.1.2.2 ZL x.2.1 (slU hs zmm hZo) (mT.st hs))) rfl rfl ?_; rintro _ _ ⟨rfl, hE⟩; rw [hzeq]; have hs := hs.ext hE; (try simp only [zcc] at hs))) | ((apply aL 99; refine JL_o (by exact aA en99 rfl (vL _ (some ⟨b0, o0, none⟩) a2 aw n c n2 c2 ZL.length ZL.length N E ZL (h.st hs) (hE0.st hs) (slU hs zmm hZo) hn hn2 hz hc (by rw [hoc]; exact ho0))) rfl rfl ?_; rintro _ _ ⟨rfl, hE⟩; rw [hoc]; have hs := hs.ext hE; (try simp only [zcc] at hs))) | (apply aH) | ((apply aC); (first | (apply aT; exact aX (i := ((p : Int) + 1 - 1).toNat) (j := 1) (hr.st hs) hr0' rfl rfl rfl aI) | exact zop); first | (exact rfl; exact rfl) | exact rfl) | (apply aQ) | (apply aB) | (apply aV) | (apply aF (t := 5); refine JL_o (by apply bN; exact bC hs rfl) rfl rfl ?_; rintro _ _ ⟨b5, rfl, hb5, hs, hE⟩) | (apply aF (t := 7); refine JL_o (by apply bN; exact bC hs rfl) rfl rfl ?_; rintro _ _ ⟨b7, rfl, hb7, hs, hE⟩) | (apply aF (t := 10); refine JL_o (by apply aR; exact aJ hs) rfl rfl ?_; rintro _ _ ⟨b10, rfl, hb10, hs, hE⟩) | (apply aU; refine JL_u (by apply aP; exact aK hs rfl rfl rfl) rfl ?_; rintro _ _ ⟨hs, hF⟩) | (apply aG; first | refine aS rfl ob ?_ | refine aZ rfl ob ?_ | refine bD rfl gb ?_))
    refine aM Tryz.func100 rfl (.agg' hs rfl rfl (.tmp rfl (.tmp rfl .nil))) (.inl ⟨ho0, rfl, hs.frm.ext⟩)
  have hgz0 : ofC N ZL = 0 := by rw [hoc]; exact Decidable.not_not.1 ho0
  have hgz : goC N ((p : Int) + 1) id true = 0 := by rw [hgc, hgz0]
  obtain ⟨p2, q, x2, y, hg⟩ : ∃ (p2 q : Nat) (x2 y : NM), Gone N ((p : Int) + 1) id true p2 q x2 y := by
    rcases mK g hgz with ⟨h1, _⟩ | ⟨_, h1⟩
    · rw [hsf] at h1; cases h1
    · exact h1
  have hpp : p2 = p := by have := hg.np; omega
  rw [hpp] at hg
  have hxx : x2 = x := by have := hg.hx; rw [hxp] at this; exact (Option.some.inj this).symm
  rw [hxx] at hg
  clear hpp hxx
  obtain ⟨eL, eN⟩ := hg.goL hgz hsf
  obtain ⟨hlh, gL, hentL⟩ := hg.facts g
  have hof : ofL N (fZ true x.2.1 id) = ofL N ZL := by rw [hZL]; rfl
  have hofn : ofn N ZL = q + 1 := by rw [← hg.hq, hZL]; rfl
  have hp1 : (ofL N ZL)[p]? = some x := by rw [← hof]; exact hg.hp'
  have hq1 : (ofL N ZL)[q]? = some y := by rw [← hof]; exact hg.hy
  have g1 : GR (ofL N ZL) := by rw [← hof]; exact hg.gr
  rw [hof] at eL hentL
  have hz1 := wI (t := ZL) hz hZl
  obtain ⟨_, zx2, zx3⟩ := hz1 x (List.mem_of_getElem? hp1)
  obtain ⟨_, zy2, zy3⟩ := hz1 y (List.mem_of_getElem? hq1)
  have hpl1 := (List.getElem?_eq_some_iff.1 hp1).1
  have hql1 := (List.getElem?_eq_some_iff.1 hq1).1
  have hne : p ≠ q := hlh
  have hlk := oG (N := ofL N ZL) (lo := p) (hi := q) (id := id) (a := y) (b := x) hq1 hp1
  rw [hgz, eN, eL]
  rw [show fF (ofL N ZL) (loP true p q) (hiP true p q) id = fF (ofL N ZL) p q id from rfl] at hentL ⊢
  have ip : ((p : Int) + 1 - 1).toNat = p := by omega
  have iq : ((q : Int) + 1 - 1).toNat = q := by omega
  have htq : inK .i64 ((q : Int) + 1) := (qR hid (by have := aAo N ZL; omega)).2
  have htp : inK .i64 ((p : Int) + 1) := hx0
  have rz1 := g1.rise p x hp1
  have rz2 := g1.rise q y hq1
  have sm1 : ∀ s ∈ x.2.2.1, s.1 = id → s = (id, (q : Int) + 1) := fun s hs e => rR g1 (g1.plus p x hp1 s hs) hq1 hg.yu hg.yt e
  have sm2 : ∀ s ∈ y.2.2.2, s.1 = id → s = (id, (p : Int) + 1) := fun s hs e => rR g1 (g1.less q y hq1 s hs) hp1 hg.xu (by rw [hg.yt]; exact (out_wi hTr hin).symm) e
  repeat' (first | ((apply aL 46; refine JL_o (by exact aA en46 rfl (dQ _ (some ⟨b0, o0, none⟩) a2 n c n2 c2 N E (h.st hs) (hE0.st hs) hn2 hz)) rfl rfl ?_; rintro _ _ ⟨rfl, hE⟩; rw [he]; have hs := hs.ext hE; (try simp only [zcc] at hs))) | ((apply aL 105; refine JL_o (by exact aA eO rfl (is_r _ (some ⟨b0, o0, none⟩) a2 n c n2 c2 N ((p : Int) + 1) (h.st hs) hx0)) rfl rfl ?_; rintro _ _ ⟨rfl, hE⟩; rw [hi]; have hs := hs.ext hE; (try simp only [zcc] at hs))) | ((apply aF (t := 43); refine JL_o (bX rfl rfl (Ret.value (cap := #[]) en45 (lU _ r0.2.1.1 r0.2.1.2.1 r0.2.1.2.2 x.2.1 id (mT.st hs) hid))) rfl rfl ?_; rintro _ _ ⟨aw, rfl, hf⟩; rw [hwL] at hf; rw [hwC, hwL]; have hs := hs.fresh hf; (try simp only [zcc] at hs))) | ((apply aL 43; refine JL_o (by exact aA en43 rfl (dY _ aw r0.2.1.1 ZL.length ZL.length r0.2.1.2.1 r0.2.1.2.2 ZL x.2.1 (slU hs zmm hZo) (mT.st hs))) rfl rfl ?_; rintro _ _ ⟨rfl, hE⟩; rw [hzeq]; have hs := hs.ext hE; (try simp only [zcc] at hs))) | ((apply aL 99; refine JL_o (by exact aA en99 rfl (aA5 _ (some ⟨b0, o0, none⟩) a2 aw n c n2 c2 ZL.length ZL.length N E ZL (h.st hs) (hE0.st hs) (slU hs zmm hZo) hn hn2 hz hc hgz0)) rfl rfl ?_; rintro _ _ ⟨a', m', c', a2', m2, c2', rfl, hm', qs, es, rs', ⟨hqm, hqo⟩, ⟨hce, hAe⟩, ⟨hNl, hel, hm2⟩, hf⟩; rw [hofn]; rw [show (((q + 1 : Nat)) : Int) = (q : Int) + 1 from rfl]; have hs := hs.fresh hf; simp only [zcc] at hs; obtain ⟨b, o, rfl⟩ := (hs.row a' m' c').some (by omega); obtain ⟨qp, hqp, hqpm⟩ := oX hqm hp1; obtain ⟨qq, hqq, hqqm⟩ := oX hqm hq1; (try simp only [zcc] at hs))) | ((apply aF (t := 84); have hs1 : St w NoF _ (OwnN qs :: TabN (some ⟨b, o, none⟩) m' c' (qs.map rawN) :: [_, _, _, _, _]) := hs.sel [1, 0, 2, 3, 5, 6, 7] (by decide); refine JL_o (bX rfl rfl (Ret.value (cap := #[ptr b7]) en170 (aA1 w NoF _ _ b o m' c' ((p : Int) + 1 - 1).toNat p qs qp x id ((q : Int) + 1) b7 ip hs1 zmm hqp hqpm (hqo _ (List.mem_of_getElem? hqp)) hid htq rz1.1 sm1 zx2))) rfl rfl ?_; rintro _ _ ⟨qn1, ⟨hn1, ho1⟩, hs⟩; have hqq1 : (qs.set p qn1)[q]? = some qq := (by rw [List.getElem?_set_ne (fun e => hne (by first | exact e | exact e.symm))]; exact hqq))) | ((apply aF (t := 90); refine JL_o (bX rfl rfl (Ret.value (cap := #[ptr b7]) en170 (aA2 w NoF _ _ b o m' c' ((q : Int) + 1 - 1).toNat q (qs.set p qn1) qq y id ((p : Int) + 1) b7 iq hs zmm hqq1 hqqm (hqo _ (List.mem_of_getElem? hqq)) hid htp rz2.2 sm2 zy3))) rfl rfl ?_; rintro _ _ ⟨qn2, ⟨hn2, ho2⟩, hs⟩)) | (apply aH) | ((first | (apply aC) | (apply JX_f; exact rfl; intro W X hs)); (first | (apply aT; exact aX (i := ((p : Int) + 1 - 1).toNat) (j := 1) (hr.st hs) hr0' rfl rfl rfl aI) | exact zop); first | (exact rfl; exact rfl) | exact rfl) | (apply aQ) | (apply aB) | (apply aV) | (apply aF (t := 5); refine JL_o (by apply bN; exact bC hs rfl) rfl rfl ?_; rintro _ _ ⟨b5, rfl, hb5, hs, hE⟩) | (apply aF (t := 7); refine JL_o (by apply bN; exact bC hs rfl) rfl rfl ?_; rintro _ _ ⟨b7, rfl, hb7, hs, hE⟩) | (apply aF (t := 10); refine JL_o (by apply aR; exact aJ hs) rfl rfl ?_; rintro _ _ ⟨b10, rfl, hb10, hs, hE⟩) | (apply aU; refine JL_u (by apply aP; exact aK hs rfl rfl rfl) rfl ?_; rintro _ _ ⟨hs, hF⟩) | (apply aG; first | refine aZ rfl ob ?_ | refine bB rfl gb ?_ | refine bD rfl gb ?_) | (apply bV; (refine bQ (id := 16) [0, 1, 0, 4, 15, 0, 32, 0, 128, 480, 31, 2047] [(0, 0), (1, 0), (2, 0), (3, 0), (4, 0), (5, 0), (6, 0), (7, 0), (8, 0), (9, 0), (10, 0), (11, 0)] [] hs cQ (by kernel_rfl) (by kernel_rfl) (by kernel_rfl) (by kernel_rfl) (by kernel_rfl) ?_)) | (refine bU (fun W hs => ?_)) | (apply cB))
  have hmean : ((qs.set p qn1).set q qn2).map fO = fF (ofL N ZL) p q id := by
    rw [List.map_set, List.map_set, hqm, hn1, hn2, hlk]; exact List.set_comm _ _ (fun e => hne e)
  refine aM Tryz.func100 rfl (.agg' hs rfl rfl (.tmp rfl (.tmp rfl .nil))) (.inr ⟨rfl, some ⟨b, o, none⟩, m', c', a2', m2, c2', rfl, hm', (qs.set p qn1).set q qn2, es, rs', ⟨hmean, iO (iO hqo ho1) ho2⟩, ⟨hce, hAe.trans hentL.symm⟩, ⟨(pE _ _ _ _).trans hNl, hel, hm2⟩, (hs.sel [1, 0, 2, 3] (by decide)).out (List.Sublist.refl _)⟩)
theorem aA4 (w : World) (a a2 : Option Addr) (n c n2 c2 : Nat) (N : List NM) (E : List Ent) (X0 id : Int) (h : Sl eD All w a n c N) (hE0 : Sl dEnt All w a2 n2 c2 E) (hn : n ≤ 900000) (hn2 : n2 ≤ 1048576) (hz : szN N) (hx0 : inK .i64 X0) (hid : okId id) :
    Ret Tryz.prog 100 #[.agg #[.slice a n c, .slice a2 n2 c2], .int .i64 X0, .int .u64 id, .bool false, .func (.func 101) #[] #[]] w fun v w' =>
      (goE N E X0 id false ≠ 0 ∧ v = .tuple #[.agg #[.slice none 0 0, .slice none 0 0], .int .i64 0, .int .i64 (goE N E X0 id false)] ∧ Ext w w') ∨
      (goE N E X0 id false = 0 ∧ ∃ a' m' c' a2' m2 c2', v = .tuple #[.agg #[.slice a' m' c', .slice a2' m2 c2'], .int .i64 (gon N X0 id false), .int .i64 0] ∧ m' ≤ n + 1 ∧ GOut w w' (goL N X0 id false) a' m' c' a2' m2 c2') := by
  refine bI (l := [_, _, _, _, _]) Tryz.func100 rfl Tryz.ntmps100 (by simp) ?_
  have hs := St.init w
  have hl := h.len
  have hl2 := hE0.len
  obtain ⟨rs, hr, hm⟩ := Sl.raw (D := gD) h
  cases hc : dP N E with
  | false =>
    have he := iQ hc
    have eE : goE N E X0 id false = 220 := by unfold goE; rw [hc]; rfl
    rw [eE]
    repeat' (first | ((apply aL 46; refine JL_o (by exact aA en46 rfl (dQ _ a a2 n c n2 c2 N E (h.st hs) (hE0.st hs) hn2 hz)) rfl rfl ?_; rintro _ _ ⟨rfl, hE⟩; rw [he]; have hs := hs.ext hE; (try simp only [zcc] at hs))) | (apply aH) | ((apply aC); exact zop; first | (exact rfl; exact rfl) | exact rfl) | (apply aQ) | (apply aB) | (apply aF (t := 5); refine JL_o (by apply bN; exact bC hs rfl) rfl rfl ?_; rintro _ _ ⟨b5, rfl, hb5, hs, hE⟩) | (apply aF (t := 7); refine JL_o (by apply bN; exact bC hs rfl) rfl rfl ?_; rintro _ _ ⟨b7, rfl, hb7, hs, hE⟩) | (apply aF (t := 10); refine JL_o (by apply aR; exact aJ hs) rfl rfl ?_; rintro _ _ ⟨b10, rfl, hb10, hs, hE⟩) | (apply aU; refine JL_u (by apply aP; exact aK hs rfl rfl rfl) rfl ?_; rintro _ _ ⟨hs, hF⟩) | (apply aG; refine aS rfl ob ?_))
    refine aM Tryz.func100 rfl (.agg' hs rfl rfl (.tmp rfl (.tmp rfl .nil))) (.inl ⟨by decide, rfl, hs.frm.ext⟩)
  | true =>
  have he := nG hc
  obtain ⟨g, hcE, hA⟩ := check_iff.1 hc
  have eE : goE N E X0 id false = goC N X0 id false := by unfold goE; rw [hc]; rfl
  rw [eE]
  cases hi : isM N X0 with
  | false =>
    have e1 : goC N X0 id false = 2 := by unfold goC; rw [hi]; rfl
    rw [e1]
    repeat' (first | ((apply aL 46; refine JL_o (by exact aA en46 rfl (dQ _ a a2 n c n2 c2 N E (h.st hs) (hE0.st hs) hn2 hz)) rfl rfl ?_; rintro _ _ ⟨rfl, hE⟩; rw [he]; have hs := hs.ext hE; (try simp only [zcc] at hs))) | ((apply aL 105; refine JL_o (by exact aA eO rfl (is_r _ a a2 n c n2 c2 N X0 (h.st hs) hx0)) rfl rfl ?_; rintro _ _ ⟨rfl, hE⟩; rw [hi]; have hs := hs.ext hE; (try simp only [zcc] at hs))) | (apply aH) | ((apply aC); exact zop; first | (exact rfl; exact rfl) | exact rfl) | (apply aQ) | (apply aB) | (apply aV) | (apply aF (t := 5); refine JL_o (by apply bN; exact bC hs rfl) rfl rfl ?_; rintro _ _ ⟨b5, rfl, hb5, hs, hE⟩) | (apply aF (t := 7); refine JL_o (by apply bN; exact bC hs rfl) rfl rfl ?_; rintro _ _ ⟨b7, rfl, hb7, hs, hE⟩) | (apply aF (t := 10); refine JL_o (by apply aR; exact aJ hs) rfl rfl ?_; rintro _ _ ⟨b10, rfl, hb10, hs, hE⟩) | (apply aU; refine JL_u (by apply aP; exact aK hs rfl rfl rfl) rfl ?_; rintro _ _ ⟨hs, hF⟩) | (apply aG; first | refine aZ rfl ob ?_ | refine bB rfl gb ?_))
    refine aM Tryz.func100 rfl (.agg' hs rfl rfl (.tmp rfl (.tmp rfl .nil))) (.inl ⟨by decide, rfl, hs.frm.ext⟩)
  | true =>
  obtain ⟨p, x, rfl, hxp, hxu⟩ := isM_true.1 hi
  have hpl := (List.getElem?_eq_some_iff.1 hxp).1
  have hnd : cZ N ((p : Int) + 1) = x := cO hxp
  obtain ⟨r0, hr0, hrel0⟩ := hm.get hxp
  obtain ⟨u1, mT, u3, u4⟩ := fQ hrel0
  have mTl := mT.len
  have hTy := g.typ p x hxp hxu
  obtain ⟨hT12, hTr, _⟩ := typeB_iff.1 hTy
  have hr0' : rs[((p : Int) + 1 - 1).toNat]? = some r0 := by rw [show ((p : Int) + 1 - 1).toNat = p by omega]; exact hr0
  have hbx : 0 ≤ (p : Int) + 1 - 1 ∧ (p : Int) + 1 - 1 < n := by omega
  obtain ⟨b0, o0, rfl⟩ := hr.sl.addr (by omega)
  have hgc : goC N ((p : Int) + 1) id false = (if id ∈ x.2.1 then ofC N (outT x.2.1 id) else 4) := by unfold goC; rw [hi, if_pos rfl, hnd]; rfl
  have hst : kB N ((p : Int) + 1) id false = false := by unfold kB; rw [hnd]; rfl
  by_cases hin : id ∈ x.2.1
  rotate_left
  · rw [if_neg hin] at hgc
    have hwC : outC x.2.1 id = 4 := by unfold outC; rw [if_pos hTy, if_neg hin]
    have hwL : outL x.2.1 id = [] := by unfold outL; rw [hwC]; rfl
    rw [hgc]
    repeat' (first | ((apply aL 46; refine JL_o (by exact aA en46 rfl (dQ _ (some ⟨b0, o0, none⟩) a2 n c n2 c2 N E (h.st hs) (hE0.st hs) hn2 hz)) rfl rfl ?_; rintro _ _ ⟨rfl, hE⟩; rw [he]; have hs := hs.ext hE; (try simp only [zcc] at hs))) | ((apply aL 105; refine JL_o (by exact aA eO rfl (is_r _ (some ⟨b0, o0, none⟩) a2 n c n2 c2 N ((p : Int) + 1) (h.st hs) hx0)) rfl rfl ?_; rintro _ _ ⟨rfl, hE⟩; rw [hi]; have hs := hs.ext hE; (try simp only [zcc] at hs))) | ((apply aF (t := 43); refine JL_o (bX rfl rfl (Ret.value (cap := #[]) vU (gW _ r0.2.1.1 r0.2.1.2.1 r0.2.1.2.2 x.2.1 id (mT.st hs)))) rfl rfl ?_; rintro _ _ ⟨aw, cw, rfl, hf⟩; rw [hwL] at hf; rw [hwC, hwL]; have hs := hs.fresh hf; (try simp only [zcc] at hs))) | (apply aH) | ((apply aC); (first | (apply aT; exact aX (i := ((p : Int) + 1 - 1).toNat) (j := 1) (hr.st hs) hr0' rfl rfl rfl aI) | exact zop); first | (exact rfl; exact rfl) | exact rfl) | (apply aQ) | (apply aB) | (apply aV) | (apply aF (t := 5); refine JL_o (by apply bN; exact bC hs rfl) rfl rfl ?_; rintro _ _ ⟨b5, rfl, hb5, hs, hE⟩) | (apply aF (t := 7); refine JL_o (by apply bN; exact bC hs rfl) rfl rfl ?_; rintro _ _ ⟨b7, rfl, hb7, hs, hE⟩) | (apply aF (t := 10); refine JL_o (by apply aR; exact aJ hs) rfl rfl ?_; rintro _ _ ⟨b10, rfl, hb10, hs, hE⟩) | (apply aU; refine JL_u (by apply aP; exact aK hs rfl rfl rfl) rfl ?_; rintro _ _ ⟨hs, hF⟩) | (apply aG; first | refine aS rfl ob ?_ | refine aZ rfl ob ?_ | refine bD rfl gb ?_))
    refine aM Tryz.func100 rfl (.agg' hs rfl rfl (.tmp rfl (.tmp rfl .nil))) (.inl ⟨by decide, rfl, hs.frm.ext⟩)
  rw [if_pos hin] at hgc
  obtain ⟨ZL, hZL⟩ : ∃ z, z = outT x.2.1 id := ⟨_, rfl⟩
  obtain ⟨hwC, hwL0⟩ := nS hTy hin
  have hwL : outL x.2.1 id = ZL := by rw [hwL0, hZL]
  have hZo : ∀ u ∈ ZL, okId u := by rw [hZL]; exact (fun u hu => jW mT u (outT_mem.1 hu).1)
  have hZl : ZL.length ≤ 1000000 := by rw [hZL]; have := rY x.2.1 id; omega
  have hne0 : ZL ≠ x.2.1 := fun e => by rw [← e, hZL, outT_mem] at hin; exact hin.2 rfl
  have hsf : kB N ((p : Int) + 1) id false = false := hst
  rw [← hZL] at hgc
  have hzeq : decide (ZL = x.2.1) = false := decide_eq_false hne0
  obtain ⟨oc, hoc⟩ : ∃ e, ofC N ZL = e := ⟨_, rfl⟩
  by_cases ho0 : oc ≠ 0
  · rw [hgc, hoc]
    repeat' (first | ((apply aL 46; refine JL_o (by exact aA en46 rfl (dQ _ (some ⟨b0, o0, none⟩) a2 n c n2 c2 N E (h.st hs) (hE0.st hs) hn2 hz)) rfl rfl ?_; rintro _ _ ⟨rfl, hE⟩; rw [he]; have hs := hs.ext hE; (try simp only [zcc] at hs))) | ((apply aL 105; refine JL_o (by exact aA eO rfl (is_r _ (some ⟨b0, o0, none⟩) a2 n c n2 c2 N ((p : Int) + 1) (h.st hs) hx0)) rfl rfl ?_; rintro _ _ ⟨rfl, hE⟩; rw [hi]; have hs := hs.ext hE; (try simp only [zcc] at hs))) | ((apply aF (t := 43); refine JL_o (bX rfl rfl (Ret.value (cap := #[]) vU (gW _ r0.2.1.1 r0.2.1.2.1 r0.2.1.2.2 x.2.1 id (mT.st hs)))) rfl rfl ?_; rintro _ _ ⟨aw, cw, rfl, hf⟩; rw [hwL] at hf; rw [hwC, hwL]; have hs := hs.fresh hf; (try simp only [zcc] at hs))) | ((apply aL 43; refine JL_o (by exact aA en43 rfl (dY _ aw r0.2.1.1 ZL.length cw r0.2.1.2.1 r0.2.1.2.2 ZL x.2.1 (slU hs zmm hZo) (mT.st hs))) rfl rfl ?_; rintro _ _ ⟨rfl, hE⟩; rw [hzeq]; have hs := hs.ext hE; (try simp only [zcc] at hs))) | ((apply aL 99; refine JL_o (by exact aA en99 rfl (vL _ (some ⟨b0, o0, none⟩) a2 aw n c n2 c2 ZL.length cw N E ZL (h.st hs) (hE0.st hs) (slU hs zmm hZo) hn hn2 hz hc (by rw [hoc]; exact ho0))) rfl rfl ?_; rintro _ _ ⟨rfl, hE⟩; rw [hoc]; have hs := hs.ext hE; (try simp only [zcc] at hs))) | (apply aH) | ((apply aC); (first | (apply aT; exact aX (i := ((p : Int) + 1 - 1).toNat) (j := 1) (hr.st hs) hr0' rfl rfl rfl aI) | exact zop); first | (exact rfl; exact rfl) | exact rfl) | (apply aQ) | (apply aB) | (apply aV) | (apply aF (t := 5); refine JL_o (by apply bN; exact bC hs rfl) rfl rfl ?_; rintro _ _ ⟨b5, rfl, hb5, hs, hE⟩) | (apply aF (t := 7); refine JL_o (by apply bN; exact bC hs rfl) rfl rfl ?_; rintro _ _ ⟨b7, rfl, hb7, hs, hE⟩) | (apply aF (t := 10); refine JL_o (by apply aR; exact aJ hs) rfl rfl ?_; rintro _ _ ⟨b10, rfl, hb10, hs, hE⟩) | (apply aU; refine JL_u (by apply aP; exact aK hs rfl rfl rfl) rfl ?_; rintro _ _ ⟨hs, hF⟩) | (apply aG; first | refine aS rfl ob ?_ | refine aZ rfl ob ?_ | refine bD rfl gb ?_))
    refine aM Tryz.func100 rfl (.agg' hs rfl rfl (.tmp rfl (.tmp rfl .nil))) (.inl ⟨ho0, rfl, hs.frm.ext⟩)
  have hgz0 : ofC N ZL = 0 := by rw [hoc]; exact Decidable.not_not.1 ho0
  have hgz : goC N ((p : Int) + 1) id false = 0 := by rw [hgc, hgz0]
  obtain ⟨p2, q, x2, y, hg⟩ : ∃ (p2 q : Nat) (x2 y : NM), Gone N ((p : Int) + 1) id false p2 q x2 y := by
    rcases mK g hgz with ⟨h1, _⟩ | ⟨_, h1⟩
    · rw [hsf] at h1; cases h1
    · exact h1
  have hpp : p2 = p := by have := hg.np; omega
  rw [hpp] at hg
  have hxx : x2 = x := by have := hg.hx; rw [hxp] at this; exact (Option.some.inj this).symm
  rw [hxx] at hg
  clear hpp hxx
  obtain ⟨eL, eN⟩ := hg.goL hgz hsf
  obtain ⟨hlh, gL, hentL⟩ := hg.facts g
  have hof : ofL N (fZ false x.2.1 id) = ofL N ZL := by rw [hZL]; rfl
  have hofn : ofn N ZL = q + 1 := by rw [← hg.hq, hZL]; rfl
  have hp1 : (ofL N ZL)[p]? = some x := by rw [← hof]; exact hg.hp'
  have hq1 : (ofL N ZL)[q]? = some y := by rw [← hof]; exact hg.hy
  have g1 : GR (ofL N ZL) := by rw [← hof]; exact hg.gr
  rw [hof] at eL hentL
  have hz1 := wI (t := ZL) hz hZl
  obtain ⟨_, zx2, zx3⟩ := hz1 x (List.mem_of_getElem? hp1)
  obtain ⟨_, zy2, zy3⟩ := hz1 y (List.mem_of_getElem? hq1)
  have hpl1 := (List.getElem?_eq_some_iff.1 hp1).1
  have hql1 := (List.getElem?_eq_some_iff.1 hq1).1
  have hne : q ≠ p := hlh
  have hlk := oG (N := ofL N ZL) (lo := q) (hi := p) (id := id) (a := x) (b := y) hp1 hq1
  rw [hgz, eN, eL]
  rw [show fF (ofL N ZL) (loP false p q) (hiP false p q) id = fF (ofL N ZL) q p id from rfl] at hentL ⊢
  have ip : ((p : Int) + 1 - 1).toNat = p := by omega
  have iq : ((q : Int) + 1 - 1).toNat = q := by omega
  have htq : inK .i64 ((q : Int) + 1) := (qR hid (by have := aAo N ZL; omega)).2
  have htp : inK .i64 ((p : Int) + 1) := hx0
  have rz1 := g1.rise p x hp1
  have rz2 := g1.rise q y hq1
  have sm1 : ∀ s ∈ x.2.2.2, s.1 = id → s = (id, (q : Int) + 1) := fun s hs e => rR g1 (g1.less p x hp1 s hs) hq1 hg.yu hg.yt e
  have sm2 : ∀ s ∈ y.2.2.1, s.1 = id → s = (id, (p : Int) + 1) := fun s hs e => rR g1 (g1.plus q y hq1 s hs) hp1 hg.xu (by rw [hg.yt]; exact (wi_out hTr hin).symm) e
  repeat' (first | ((apply aL 46; refine JL_o (by exact aA en46 rfl (dQ _ (some ⟨b0, o0, none⟩) a2 n c n2 c2 N E (h.st hs) (hE0.st hs) hn2 hz)) rfl rfl ?_; rintro _ _ ⟨rfl, hE⟩; rw [he]; have hs := hs.ext hE; (try simp only [zcc] at hs))) | ((apply aL 105; refine JL_o (by exact aA eO rfl (is_r _ (some ⟨b0, o0, none⟩) a2 n c n2 c2 N ((p : Int) + 1) (h.st hs) hx0)) rfl rfl ?_; rintro _ _ ⟨rfl, hE⟩; rw [hi]; have hs := hs.ext hE; (try simp only [zcc] at hs))) | ((apply aF (t := 43); refine JL_o (bX rfl rfl (Ret.value (cap := #[]) vU (gW _ r0.2.1.1 r0.2.1.2.1 r0.2.1.2.2 x.2.1 id (mT.st hs)))) rfl rfl ?_; rintro _ _ ⟨aw, cw, rfl, hf⟩; rw [hwL] at hf; rw [hwC, hwL]; have hs := hs.fresh hf; (try simp only [zcc] at hs))) | ((apply aL 43; refine JL_o (by exact aA en43 rfl (dY _ aw r0.2.1.1 ZL.length cw r0.2.1.2.1 r0.2.1.2.2 ZL x.2.1 (slU hs zmm hZo) (mT.st hs))) rfl rfl ?_; rintro _ _ ⟨rfl, hE⟩; rw [hzeq]; have hs := hs.ext hE; (try simp only [zcc] at hs))) | ((apply aL 99; refine JL_o (by exact aA en99 rfl (aA5 _ (some ⟨b0, o0, none⟩) a2 aw n c n2 c2 ZL.length cw N E ZL (h.st hs) (hE0.st hs) (slU hs zmm hZo) hn hn2 hz hc hgz0)) rfl rfl ?_; rintro _ _ ⟨a', m', c', a2', m2, c2', rfl, hm', qs, es, rs', ⟨hqm, hqo⟩, ⟨hce, hAe⟩, ⟨hNl, hel, hm2⟩, hf⟩; rw [hofn]; rw [show (((q + 1 : Nat)) : Int) = (q : Int) + 1 from rfl]; have hs := hs.fresh hf; simp only [zcc] at hs; obtain ⟨b, o, rfl⟩ := (hs.row a' m' c').some (by omega); obtain ⟨qp, hqp, hqpm⟩ := oX hqm hp1; obtain ⟨qq, hqq, hqqm⟩ := oX hqm hq1; (try simp only [zcc] at hs))) | ((apply aF (t := 96); have hs1 : St w NoF _ (OwnN qs :: TabN (some ⟨b, o, none⟩) m' c' (qs.map rawN) :: [_, _, _, _, _]) := hs.sel [1, 0, 2, 3, 5, 6, 7] (by decide); refine JL_o (bX rfl rfl (Ret.value (cap := #[ptr b7]) en170 (aA2 w NoF _ _ b o m' c' ((p : Int) + 1 - 1).toNat p qs qp x id ((q : Int) + 1) b7 ip hs1 zmm hqp hqpm (hqo _ (List.mem_of_getElem? hqp)) hid htq rz1.2 sm1 zx3))) rfl rfl ?_; rintro _ _ ⟨qn1, ⟨hn1, ho1⟩, hs⟩; have hqq1 : (qs.set p qn1)[q]? = some qq := (by rw [List.getElem?_set_ne (fun e => hne (by first | exact e | exact e.symm))]; exact hqq))) | ((apply aF (t := 102); refine JL_o (bX rfl rfl (Ret.value (cap := #[ptr b7]) en170 (aA1 w NoF _ _ b o m' c' ((q : Int) + 1 - 1).toNat q (qs.set p qn1) qq y id ((p : Int) + 1) b7 iq hs zmm hqq1 hqqm (hqo _ (List.mem_of_getElem? hqq)) hid htp rz2.1 sm2 zy2))) rfl rfl ?_; rintro _ _ ⟨qn2, ⟨hn2, ho2⟩, hs⟩)) | (apply aH) | ((first | (apply aC) | (apply JX_f; exact rfl; intro W X hs)); (first | (apply aT; exact aX (i := ((p : Int) + 1 - 1).toNat) (j := 1) (hr.st hs) hr0' rfl rfl rfl aI) | exact zop); first | (exact rfl; exact rfl) | exact rfl) | (apply aQ) | (apply aB) | (apply aV) | (apply aF (t := 5); refine JL_o (by apply bN; exact bC hs rfl) rfl rfl ?_; rintro _ _ ⟨b5, rfl, hb5, hs, hE⟩) | (apply aF (t := 7); refine JL_o (by apply bN; exact bC hs rfl) rfl rfl ?_; rintro _ _ ⟨b7, rfl, hb7, hs, hE⟩) | (apply aF (t := 10); refine JL_o (by apply aR; exact aJ hs) rfl rfl ?_; rintro _ _ ⟨b10, rfl, hb10, hs, hE⟩) | (apply aU; refine JL_u (by apply aP; exact aK hs rfl rfl rfl) rfl ?_; rintro _ _ ⟨hs, hF⟩) | (apply aG; first | refine aZ rfl ob ?_ | refine bD rfl gb ?_) | (apply bV; (refine bQ (id := 16) [0, 1, 0, 4, 15, 0, 32, 0, 128, 480, 31, 2047] [(0, 0), (1, 0), (2, 0), (3, 0), (4, 0), (5, 0), (6, 0), (7, 0), (8, 0), (9, 0), (10, 0), (11, 0)] [] hs cQ (by kernel_rfl) (by kernel_rfl) (by kernel_rfl) (by kernel_rfl) (by kernel_rfl) ?_)) | (refine bU (fun W hs => ?_)) | (apply cB))
  have hmean : ((qs.set p qn1).set q qn2).map fO = fF (ofL N ZL) q p id := by
    rw [List.map_set, List.map_set, hqm, hn1, hn2, hlk]
  refine aM Tryz.func100 rfl (.agg' hs rfl rfl (.tmp rfl (.tmp rfl .nil))) (.inr ⟨rfl, some ⟨b, o, none⟩, m', c', a2', m2, c2', rfl, hm', (qs.set p qn1).set q qn2, es, rs', ⟨hmean, iO (iO hqo ho1) ho2⟩, ⟨hce, hAe.trans hentL.symm⟩, ⟨(pE _ _ _ _).trans hNl, hel, hm2⟩, (hs.sel [1, 0, 2, 3] (by decide)).out (List.Sublist.refl _)⟩)
end Go.Eng
end
section
namespace Go.Eng
open Go.Proofs
set_option linter.unusedSimpArgs false
set_option linter.unusedVariables false
def drC (N : List NM) (n : Int) : Int := if isM N n && !decide (n = 1) then 0 else 2
def drL (N : List NM) (n : Int) : List NM := if drC N n = 0 then gK N (n - 1).toNat else []
def drE (N : List NM) (E : List Ent) (n : Int) : Int := if dP N E then drC N n else 220
def vY (P : Int) (x : NM) : NM := (x.1, x.2.1, cL x.2.2.1 P, cL x.2.2.2 P)
theorem away_map (N : List NM) (p : Nat) : (N.set p n0).map (vY ((p : Int) + 1)) = N.mapIdx (offN p) := by
  apply List.ext_getElem?
  intro i
  rw [List.getElem?_map, List.getElem?_mapIdx]
  by_cases e : i = p
  · subst e
    by_cases hl : i < N.length
    · rw [List.getElem?_set_self hl, List.getElem?_eq_getElem hl]
      show some (vY _ n0) = some (offN i i _)
      unfold offN
      rw [if_pos rfl]; rfl
    · rw [List.getElem?_eq_none (by rw [List.length_set]; omega), List.getElem?_eq_none (by omega)]; rfl
  · rw [List.getElem?_set_ne (by omega)]
    cases hx : N[i]? with
    | none => rfl
    | some x =>
      show some (vY _ x) = some (offN p i x)
      rw [fR e]; rfl
theorem St.cutN {w0 w : World} {F : Nat → Prop} {L : List HP} {qs : List QN} (m : Nat) (h : St w0 F w (OwnN qs :: L)) : St w0 F w (OwnN (qs.take m) :: L) := by
  have h2 : St w0 F w (qs.map rowN ++ L) := St.unstar h
  refine St.star (A := (qs.take m).map rowN) (h2.sub ?_)
  exact List.Sublist.append_right ((List.take_sublist m qs).map rowN) L
theorem uG {N : List NM} {E : List Ent} (h : dP N E = true) {p : Nat} {a : NM} (ha : N[p]? = some a) (hua : a.1 = true) {i : Nat} {e : Ent} (he : E[i]? = some e) (he1 : e.1 = 1) (het : e.2.1 = a.2.1) : allM (E.set i gone) = dZ (gK N p) := by
  obtain ⟨g, hc, hA⟩ := check_iff.1 h
  have hem : e ∈ E.filter dI := List.mem_filter.2 ⟨List.mem_of_getElem? he, decide_eq_true he1⟩
  have hx : ((1, a.2.1, (p : Int) + 1) : Ent) ∈ E.filter dI := (eF E).mem_iff.1 (by rw [hA]; exact ents_mem.2 ⟨p, a, ha, hua, rfl⟩)
  have hee : e = (1, a.2.1, (p : Int) + 1) := nV (dR hc) hem hx het
  have hp := vQ he he1
  have hd : dN (e :: (E.set i gone).filter dI) := (hp.pairwise_iff (fun h => Ne.symm h)).1 (dR hc)
  have hne := (List.pairwise_cons.1 (eA hd)).1
  refine aB3 (nL hc he he1) (pQ g.uniq) fun u => ?_
  rw [pR ha hua g.uniq, ← hee, ← hA, (eF E).mem_iff, hp.mem_iff, List.mem_cons]
  constructor
  · intro h; exact ⟨.inr h, fun e => hne u h e.symm⟩
  · rintro ⟨h1 | h1, h2⟩
    · exact absurd h1 h2
    · exact h1
theorem vV {N : List NM} {E : List Ent} (h : dP N E = true) {p : Nat} {a : NM} (ha : N[p]? = some a) (hua : a.1 = true) : uI E a.2.1 = 0 := by
  obtain ⟨g, hc, hA⟩ := check_iff.1 h
  have hx : ((1, a.2.1, (p : Int) + 1) : Ent) ∈ E.filter dI := (eF E).mem_iff.1 (by rw [hA]; exact ents_mem.2 ⟨p, a, ha, hua, rfl⟩)
  exact yU hc hx
theorem gone_len {E : List Ent} (i : Nat) : (E.set i gone).length = E.length := List.length_set
attribute [local irreducible] Hold J JL JD JX JXat JDH OpR OpG Ret RetV Is Blk Row
set_option maxRecDepth 100000
set_option maxHeartbeats 800000
theorem lH (w : World) (x : ST) (P : Int) (b3 : Nat) (hb3 : w.heap[b3]? = some (.cells #[.int .i64 P] 3 (0, 0))) : Ret Tryz.prog 108 (#[.agg (cT x).toArray] ++ #[ptr b3]) w fun v w' => v = .bool (decide (x.2 = P)) ∧ Ext w w' := by
  refine bI (l := [_, _]) Tryz.func108 rfl Tryz.ntmps108 (by simp) ?_
  have hs := St.init w
  repeat' (first | (apply aH) | ((apply aC); (first | (apply aT; exact bL (hs.old_cell (cA (off := 0) hb3 rfl)) rfl aI) | exact zop); first | (exact rfl; exact rfl) | exact rfl) | (apply aQ) | (apply aB) | (apply aF (t := 2); refine JL_o (by apply bN; exact bC hs rfl) rfl rfl ?_; rintro _ _ ⟨b2, rfl, hb2, hs, hE⟩))
  refine aM Tryz.func108 rfl (.tmp rfl .nil) ⟨rfl, hs.frm.ext⟩
-- WSPL 38 6 : [] [0, 1, 2]
theorem sI (w : World) (a a2 : Option Addr) (n c n2 c2 : Nat) (N : List NM) (E : List Ent) (X0 : Int) (h : Sl eD All w a n c N) (hE0 : Sl dEnt All w a2 n2 c2 E) (hn : n ≤ 900000) (hn2 : n2 ≤ 1048576) (hz : szN N) (hx0 : inK .i64 X0) :
    Ret Tryz.prog 38 #[.agg #[.slice a n c, .slice a2 n2 c2], .int .i64 X0] w fun v w' =>
      (drE N E X0 ≠ 0 ∧ v = .tuple #[.agg #[.slice none 0 0, .slice none 0 0], .int .i64 (drE N E X0)] ∧ Ext w w') ∨
      (drE N E X0 = 0 ∧ ∃ a' m' c' a2' m2 c2', v = .tuple #[.agg #[.slice a' m' c', .slice a2' m2 c2'], .int .i64 0] ∧ m' ≤ n ∧ GOut w w' (drL N X0) a' m' c' a2' m2 c2') := by
  refine bI (l := [_, _]) Tryz.func38 rfl Tryz.ntmps38 (by simp) ?_
  have hs := St.init w
  have hl := h.len
  have hl2 := hE0.len
  obtain ⟨rs, hr, hm⟩ := Sl.raw (D := gD) h
  cases hc : dP N E with
  | false =>
    have he := iQ hc
    have eE : drE N E X0 = 220 := by unfold drE; rw [hc]; rfl
    rw [eE]
    repeat' (first | ((apply aL 46; refine JL_o (by exact aA en46 rfl (dQ _ a a2 n c n2 c2 N E (h.st hs) (hE0.st hs) hn2 hz)) rfl rfl ?_; rintro _ _ ⟨rfl, hE⟩; rw [he]; have hs := hs.ext hE; (try simp only [zcc] at hs))) | (apply aH) | ((apply aC); exact zop; first | (exact rfl; exact rfl) | exact rfl) | (apply aQ) | (apply aB) | (apply aF (t := 2); refine JL_o (by apply bN; exact bC hs rfl) rfl rfl ?_; rintro _ _ ⟨b2, rfl, hb2, hs, hE⟩) | (apply aF (t := 3); refine JL_o (by apply bN; exact bC hs rfl) rfl rfl ?_; rintro _ _ ⟨b3, rfl, hb3, hs, hE⟩) | (apply aF (t := 4); refine JL_o (by apply aR; exact aJ hs) rfl rfl ?_; rintro _ _ ⟨b4, rfl, hb4, hs, hE⟩) | (apply aU; refine JL_u (by apply aP; exact aK hs rfl rfl rfl) rfl ?_; rintro _ _ ⟨hs, hF⟩) | (apply aG; refine aS rfl ob ?_))
    refine aM Tryz.func38 rfl (.agg' hs rfl rfl (.tmp rfl .nil)) (.inl ⟨by decide, rfl, hs.frm.ext⟩)
  | true =>
  have he := nG hc
  obtain ⟨g, hcE, hA⟩ := check_iff.1 hc
  have eE : drE N E X0 = drC N X0 := by unfold drE; rw [hc]; rfl
  rw [eE]
  cases hi : isM N X0 with
  | false =>
    have e1 : drC N X0 = 2 := by unfold drC; rw [hi]; rfl
    rw [e1]
    repeat' (first | ((apply aL 46; refine JL_o (by exact aA en46 rfl (dQ _ a a2 n c n2 c2 N E (h.st hs) (hE0.st hs) hn2 hz)) rfl rfl ?_; rintro _ _ ⟨rfl, hE⟩; rw [he]; have hs := hs.ext hE; (try simp only [zcc] at hs))) | ((apply aL 105; refine JL_o (by exact aA eO rfl (is_r _ a a2 n c n2 c2 N X0 (h.st hs) hx0)) rfl rfl ?_; rintro _ _ ⟨rfl, hE⟩; rw [hi]; have hs := hs.ext hE; (try simp only [zcc] at hs))) | (apply aH) | ((apply aC); exact zop; first | (exact rfl; exact rfl) | exact rfl) | (apply aQ) | (apply aB) | (apply aV) | (apply aF (t := 2); refine JL_o (by apply bN; exact bC hs rfl) rfl rfl ?_; rintro _ _ ⟨b2, rfl, hb2, hs, hE⟩) | (apply aF (t := 3); refine JL_o (by apply bN; exact bC hs rfl) rfl rfl ?_; rintro _ _ ⟨b3, rfl, hb3, hs, hE⟩) | (apply aF (t := 4); refine JL_o (by apply aR; exact aJ hs) rfl rfl ?_; rintro _ _ ⟨b4, rfl, hb4, hs, hE⟩) | (apply aU; refine JL_u (by apply aP; exact aK hs rfl rfl rfl) rfl ?_; rintro _ _ ⟨hs, hF⟩) | (apply bK; (refine cY rfl gb rfl ?_)) | (apply aG; first | refine aZ rfl ob ?_ | refine bB rfl gb ?_))
    refine aM Tryz.func38 rfl (.agg' hs rfl rfl (.tmp rfl .nil)) (.inl ⟨by decide, rfl, hs.frm.ext⟩)
  | true =>
  by_cases h1 : X0 = 1
  · have e1 : drC N X0 = 2 := by unfold drC; rw [hi, decide_eq_true h1]; rfl
    rw [e1]
    repeat' (first | ((apply aL 46; refine JL_o (by exact aA en46 rfl (dQ _ a a2 n c n2 c2 N E (h.st hs) (hE0.st hs) hn2 hz)) rfl rfl ?_; rintro _ _ ⟨rfl, hE⟩; rw [he]; have hs := hs.ext hE; (try simp only [zcc] at hs))) | ((apply aL 105; refine JL_o (by exact aA eO rfl (is_r _ a a2 n c n2 c2 N X0 (h.st hs) hx0)) rfl rfl ?_; rintro _ _ ⟨rfl, hE⟩; rw [hi]; have hs := hs.ext hE; (try simp only [zcc] at hs))) | (apply aH) | ((first | (apply aC) | (apply bA; exact rfl; exact gb)); exact zop; first | (exact rfl; exact rfl) | exact rfl) | (apply aQ) | (apply aB) | (apply aV) | (apply aF (t := 2); refine JL_o (by apply bN; exact bC hs rfl) rfl rfl ?_; rintro _ _ ⟨b2, rfl, hb2, hs, hE⟩) | (apply aF (t := 3); refine JL_o (by apply bN; exact bC hs rfl) rfl rfl ?_; rintro _ _ ⟨b3, rfl, hb3, hs, hE⟩) | (apply aF (t := 4); refine JL_o (by apply aR; exact aJ hs) rfl rfl ?_; rintro _ _ ⟨b4, rfl, hb4, hs, hE⟩) | (apply aU; refine JL_u (by apply aP; exact aK hs rfl rfl rfl) rfl ?_; rintro _ _ ⟨hs, hF⟩) | (apply aG; first | refine aS rfl ob ?_ | refine aZ rfl ob ?_))
    refine aM Tryz.func38 rfl (.agg' hs rfl rfl (.tmp rfl .nil)) (.inl ⟨by decide, rfl, hs.frm.ext⟩)
  have e1 : drC N X0 = 0 := by unfold drC; rw [hi, decide_eq_false h1]; rfl
  obtain ⟨p, x, rfl, hxp, hxu⟩ := isM_true.1 hi
  have e2 : drL N ((p : Int) + 1) = gK N p := by unfold drL; rw [if_pos e1, show ((p : Int) + 1 - 1).toNat = p by omega]
  rw [e1, e2]
  have hpl := (List.getElem?_eq_some_iff.1 hxp).1
  obtain ⟨r0, hr0, hrel0⟩ := hm.get hxp
  obtain ⟨u1, mT, u3, u4⟩ := fQ hrel0
  have hr0' : rs[((p : Int) + 1 - 1).toNat]? = some r0 := by rw [show ((p : Int) + 1 - 1).toNat = p by omega]; exact hr0
  have hbx : 0 ≤ (p : Int) + 1 - 1 ∧ (p : Int) + 1 - 1 < n := by omega
  have ip : ((p : Int) + 1 - 1).toNat = p := by omega
  obtain ⟨b0, o0, rfl⟩ := hr.sl.addr (by omega)
  have hdr := vV hc hxp hxu
  repeat' (first | ((apply aL 46; refine JL_o (by exact aA en46 rfl (dQ _ (some ⟨b0, o0, none⟩) a2 n c n2 c2 N E (h.st hs) (hE0.st hs) hn2 hz)) rfl rfl ?_; rintro _ _ ⟨rfl, hE⟩; rw [he]; have hs := hs.ext hE; (try simp only [zcc] at hs))) | ((apply aL 105; refine JL_o (by exact aA eO rfl (is_r _ (some ⟨b0, o0, none⟩) a2 n c n2 c2 N ((p : Int) + 1) (h.st hs) hx0)) rfl rfl ?_; rintro _ _ ⟨rfl, hE⟩; rw [hi]; have hs := hs.ext hE; (try simp only [zcc] at hs))) | ((apply ax_c; apply gG 106; exact rfl; (intro W X hN hs; exact aA en106 rfl (drop_ok _ a2 n2 c2 E r0.2.1.1 r0.2.1.2.1 r0.2.1.2.2 x.2.1 (hE0.st hs) hn2 (mT.st hs) hdr)); (rintro _ _ _ _ ⟨i0, e0, rs1, a4, c4, ⟨he0, he01, he0t⟩, rfl, hf⟩; first | exact hE | exact Fresh.ext hf); rintro W X _ _ hN hs ⟨i0, e0, rs1, a4, c4, ⟨he0, he01, he0t⟩, rfl, hf⟩; have hs := hs.fresh hf; (try simp only [zcc] at hs); refine JX.at hs ?_)) | ((apply aL 107; refine JL_o (by exact aA aBl rfl (tY _ (some ⟨b0, o0, none⟩) a4 n c n2 c4 N (E.set i0 gone) (h.st hs) (eM hs zmm zmm) (by omega) hn2 hz (jD (nL hcE he0 he01)))) rfl rfl ?_; rintro _ _ ⟨qs, rs', a', a2', ⟨hqm, hqo⟩, rfl, hf⟩; have hs := hs.fresh hf; simp only [zcc] at hs; obtain ⟨b, o, rfl⟩ := (hs.row a' n n).some (by omega); have hql : qs.length = n := (by have := congrArg List.length hqm; rw [List.length_map] at this; omega); have hset : bR (encL cNd (qs.map rawN)) (((p : Int) + 1 - 1).toNat * 4) (cNd r00) = encL cNd ((qs.map rawN).set p r00) := (by rw [ip]; exact mN _ p r00 (by rw [List.length_map]; omega)); (try simp only [zcc] at hs))) | ((apply ax_c; apply JX_cu; exact rfl; (intro W X hN hs; exact iI (by apply aP; exact aK hs rfl rfl rfl) (St.zfoot (A := [_]) (C0 := [_, _, _]) (show St _ _ _ ([_] ++ [_, _, _]) from hs.sel [1, 4, 5, 6] (by decide)) hZZ)); (rintro _ _ _ _ ⟨⟨_, hF⟩, hzz⟩; exact Frm.rlZ hF (fun k hk => hzz k ⟨_, List.mem_singleton_self _, by rw [show k = b7 from hk]; exact fM _ _⟩)); exact rfl; rintro W X _ _ hN hs0 ⟨⟨hs, hF⟩, hzz⟩; refine JX.at hs ?_)) | ((apply aU; refine JL_u (by apply aP; exact cD (b := b) (o := o) (off := ((p : Int) + 1 - 1).toNat * 4) (n := n) (c := n) (vs := cNd r00) hs rfl rfl rfl rfl (by simp [Value.oneCell']) (by show ((p : Int) + 1 - 1).toNat * 4 + 4 ≤ n * 4; omega)) rfl ?_; rintro _ _ ⟨hs, hF⟩; rw [hset] at hs)) | (apply aH) | ((first | (apply aC) | (apply bA; exact rfl; exact gb) | (apply aCi; exact rfl; intro W hs)); (first | (apply aT; exact aX (i := ((p : Int) + 1 - 1).toNat) (j := 1) (hr.st hs) hr0' rfl rfl rfl aI) | exact zop); first | (exact rfl; exact rfl) | exact rfl) | (apply aQ) | (apply aB) | (apply aN) | (apply aV) | (apply aF (t := 2); refine JL_o (by apply bN; exact bC hs rfl) rfl rfl ?_; rintro _ _ ⟨b2, rfl, hb2, hs, hE⟩) | (apply aF (t := 3); refine JL_o (by apply bN; exact bC hs rfl) rfl rfl ?_; rintro _ _ ⟨b3, rfl, hb3, hs, hE⟩) | (apply aF (t := 4); refine JL_o (by apply aR; exact aJ hs) rfl rfl ?_; rintro _ _ ⟨b4, rfl, hb4, hs, hE⟩) | (apply ax_n; refine JX_n (t := 7) rfl (fun W L hs => by apply aR; exact aJ hs) rfl ?_) | (apply ax_k; (first | refine JX_k (t := 7) ?_ | refine JX_k2 (t := 7) rfl ?_); intro b7) | (apply aU; refine JL_u (by apply aP; exact aK hs rfl rfl rfl) rfl ?_; rintro _ _ ⟨hs, hF⟩) | (apply aG; refine aZ rfl ob ?_) | (apply bV; (refine aCf (id := 6) [0, 1, 0, 4, 0, 16, 60, 124, 252, 511, 1023, 2047, 2047, 0, 12287, 32767] [(0, 0), (1, 0), (2, 0), (3, 0), (4, 0), (5, 0), (6, 0), (7, 0), (8, 0), (13, 2), (9, 1), (10, 0), (11, 0), (12, 0), (13, 3), (14, 1), (15, 0)] [] [] [_, _, _] (show St _ _ _ [_, _, _] from hs.sel [0, 1, 2] (by decide)) rfl cQ (by kernel_rfl) (by kernel_rfl) (by kernel_rfl) (by kernel_rfl) (by kernel_rfl) ?_; intro ZZ hZZ)) | (refine bU (fun W hs => ?_)) | (apply cB))
  have hs := hs.zeroN false
  obtain ⟨q0, hq0⟩ : ∃ q0, qs[p]? = some q0 := ⟨_, List.getElem?_eq_getElem (by omega)⟩
  have hs := St.replN (L := [_, _, _, _, _, _]) hq0 (hs.sel [0, 2, 1, 3, 4, 8, 9, 10] (by decide))
  obtain ⟨qs1, hqs1⟩ : ∃ l, l = qs.set p (false, (z0, []), (z0, []), (z0, [])) := ⟨_, rfl⟩
  have hqm1 : qs1.map fO = N.set p n0 := by rw [hqs1, List.map_set, hqm]
  have hqr1 : qs1.map rawN = (qs.map rawN).set p r00 := by rw [hqs1, List.map_set]
  have hqo1 : ∀ q ∈ qs1, okN q := by rw [hqs1]; exact iO hqo (wP false)
  rw [← hqs1, ← hqr1] at hs
  obtain ⟨N1, hN1⟩ : ∃ l, l = N.set p n0 := ⟨_, rfl⟩
  rw [← hN1] at hqm1
  have hN1l : N1.length = n := by rw [hN1, List.length_set, hl]
  have hz1 : szN N1 := by
    rw [hN1]
    intro u hu
    rcases List.mem_or_eq_of_mem_set hu with e | e
    · exact hz u e
    · rw [e]; exact ⟨by show 0 ≤ 1000000; omega, by show 0 ≤ 1000000; omega, by show 0 ≤ 1000000; omega⟩
  refine bT (α := Nat × List QN) [(2, _), (4, _), (9, _), (57, _)] (fun g => [(58, .int .i64 g.1)]) (fun g w' => St w NoF w' [OwnN g.2, TabN (some ⟨b, o, none⟩) n n (g.2.map rawN), bZ a2' n2 n2 rs', Own rs' (E.set i0 gone), Blk b4 (.cells #[.slice none 0 0, .slice none 0 0] 57 (0, 0)), Blk b3 (.cells #[.int .i64 ((p : Int) + 1)] 3 (0, 0)), Blk b2 (.cells #[.slice (some ⟨b, o, none⟩) n n, .slice a2' n2 n2] 57 (0, 0))] ∧ (g.2.map fO = (N1.take g.1).map (vY ((p : Int) + 1)) ++ N1.drop g.1 ∧ ∀ q ∈ g.2, okN q) ∧ g.1 ≤ n) (fun g => n - g.1) (0, qs1) ⟨hs, ⟨hqm1, hqo1⟩, Nat.zero_le _⟩ zss ?_
  rintro ⟨i, qi⟩ w2 ⟨hs1, ⟨hqmi, hqoi⟩, hin⟩ ih
  dsimp only at hs1 hqmi hqoi hin ih ⊢
  have hs : St w NoF w2 [_, _, _, _, _, _, _] := hs1
  by_cases hlt : i < n
  · obtain ⟨y, hy⟩ : ∃ y, N1[i]? = some y := ⟨_, List.getElem?_eq_getElem (by omega)⟩
    obtain ⟨z1, z2, z3⟩ := hz1 y (List.mem_of_getElem? hy)
    have hgi : ((N1.take i).map (vY ((p : Int) + 1)) ++ N1.drop i)[i]? = some y := by
      rw [List.getElem?_append_right (by rw [List.length_map, List.length_take]; omega), List.length_map, List.length_take, List.getElem?_drop, show i + (i - min i N1.length) = i by omega]; exact hy
    obtain ⟨q, hq, hqy⟩ := oX hqmi hgi
    obtain ⟨y1, y2, y3, y4⟩ := sB hqy
    obtain ⟨⟨o1, o2⟩, ⟨o3, o4⟩, ⟨o5, o6⟩⟩ := hqoi q (List.mem_of_getElem? hq)
    have hql1 := (List.getElem?_eq_some_iff.1 hq).1
    have hraw : (qi.map rawN)[i]? = some (rawN q) := by rw [List.getElem?_map, hq]; rfl
    have hc2 : (encL cNd (qi.map rawN))[i * 4 + 2]? = some (.slice q.2.2.1.1.1 q.2.2.1.1.2.1 q.2.2.1.1.2.2) := by
      rw [show (encL cNd (qi.map rawN))[i * 4 + 2]? = (cNd (rawN q))[2]? from dK (d := dRNd) (qi.map rawN) i 2 (rawN q) hraw (by show 2 < 4; omega)]; rfl
    have hc3 : (encL cNd (qi.map rawN))[i * 4 + 3]? = some (.slice q.2.2.2.1.1 q.2.2.2.1.2.1 q.2.2.2.1.2.2) := by
      rw [show (encL cNd (qi.map rawN))[i * 4 + 3]? = (cNd (rawN q))[3]? from dK (d := dRNd) (qi.map rawN) i 3 (rawN q) hraw (by show 3 < 4; omega)]; rfl
    have hg24 : ((qi.map rawN).set i (q.1, q.2.1.1, (q.2.2.1.1.1, (cL q.2.2.1.2 ((p : Int) + 1)).length, q.2.2.1.1.2.2), q.2.2.2.1))[i]? = some (q.1, q.2.1.1, (q.2.2.1.1.1, (cL q.2.2.1.2 ((p : Int) + 1)).length, q.2.2.1.1.2.2), q.2.2.2.1) := List.getElem?_set_self (by rw [List.length_map]; exact hql1)
    have hset24 : bR (encL cNd (qi.map rawN)) (i * 4 + 2) [.slice q.2.2.1.1.1 (cL q.2.2.1.2 ((p : Int) + 1)).length q.2.2.1.1.2.2] = encL cNd ((qi.map rawN).set i (q.1, q.2.1.1, (q.2.2.1.1.1, (cL q.2.2.1.2 ((p : Int) + 1)).length, q.2.2.1.1.2.2), q.2.2.2.1)) := kU _ i (rawN q) _ _ _ hraw
    have hset27 : bR (encL cNd ((qi.map rawN).set i (q.1, q.2.1.1, (q.2.2.1.1.1, (cL q.2.2.1.2 ((p : Int) + 1)).length, q.2.2.1.1.2.2), q.2.2.2.1))) (i * 4 + 3) [.slice q.2.2.2.1.1 (cL q.2.2.2.2 ((p : Int) + 1)).length q.2.2.2.1.2.2] = encL cNd ((qi.map rawN).set i (q.1, q.2.1.1, (q.2.2.1.1.1, (cL q.2.2.1.2 ((p : Int) + 1)).length, q.2.2.1.1.2.2), (q.2.2.2.1.1, (cL q.2.2.2.2 ((p : Int) + 1)).length, q.2.2.2.1.2.2))) := (kT _ i _ _ _ _ hg24).trans (by rw [List.set_set])
    obtain ⟨qn, hqn⟩ : ∃ qn : QN, qn = (q.1, q.2.1, ((q.2.2.1.1.1, (cL q.2.2.1.2 ((p : Int) + 1)).length, q.2.2.1.1.2.2), cL q.2.2.1.2 ((p : Int) + 1)), ((q.2.2.2.1.1, (cL q.2.2.2.2 ((p : Int) + 1)).length, q.2.2.2.1.2.2), cL q.2.2.2.2 ((p : Int) + 1))) := ⟨_, rfl⟩
    have hqno : okN qn := by rw [hqn]; exact ⟨⟨o1, o2⟩, ⟨rfl, fun s hs => o4 s (List.mem_filter.1 hs).1⟩, ⟨rfl, fun s hs => o6 s (List.mem_filter.1 hs).1⟩⟩
    have hqnx : fO qn = vY ((p : Int) + 1) y := by rw [hqn]; exact nm_eq.2 ⟨y1, y2, by show cL q.2.2.1.2 _ = cL y.2.2.1 _; rw [y3], by show cL q.2.2.2.2 _ = cL y.2.2.2 _; rw [y4]⟩
    have hqnr : (qi.set i qn).map rawN = (qi.map rawN).set i (q.1, q.2.1.1, (q.2.2.1.1.1, (cL q.2.2.1.2 ((p : Int) + 1)).length, q.2.2.1.1.2.2), (q.2.2.2.1.1, (cL q.2.2.2.2 ((p : Int) + 1)).length, q.2.2.2.1.2.2)) := by rw [List.map_set, hqn]
    have hqnm : (qi.set i qn).map fO = (N1.take (i + 1)).map (vY ((p : Int) + 1)) ++ N1.drop (i + 1) := by
      rw [List.map_set, hqmi, hqnx, oU _ N1 i _ (by rw [List.length_map, List.length_take]; omega) (by omega), List.take_add_one, hy, List.map_append]; rfl
    have hn2' : q.2.2.1.1.2.1 ≤ 4000000 := by rw [o3, y3]; omega
    have hn3' : q.2.2.2.1.2.1 ≤ 4000000 := by rw [o5, y4]; omega
    repeat' (first | ((apply xH 16; refine hold ?_)) | (apply aH) | ((apply aC); exact zop; first | (exact rfl; exact rfl) | exact rfl) | (apply aQ) | (apply aB) | (apply aN) | (apply aV) | (apply aG; refine aS rfl ob ?_))
    refine oQ ?_
    have hs := St.unpackN (St.takeN hq (hs.sel [0, 1, 2, 3, 4, 5, 6] (by decide)))
    have hs : St w NoF _ ([row2 q, row3 q, TabN (some ⟨b, o, none⟩) n n (qi.map rawN)] ++ [row1 q, OwnN (qi.take i ++ qi.drop (i + 1)), bZ a2' n2 n2 rs', Own rs' (E.set i0 gone), Blk b4 (.cells #[.slice none 0 0, .slice none 0 0] 57 (0, 0)), Blk b3 (.cells #[.int .i64 ((p : Int) + 1)] 3 (0, 0)), Blk b2 (.cells #[.slice (some ⟨b, o, none⟩) n n, .slice a2' n2 n2] 57 (0, 0))]) := hs.sel [1, 2, 4, 0, 3, 5, 6, 7, 8, 9] (by decide)
    obtain ⟨ZZ, hZZ⟩ : ∃ Z : Nat → Prop, ∀ k, Z k ↔ ((NoF k ∨ w.heap.size ≤ k) ∧ ∀ c ∈ [row1 q, OwnN (qi.take i ++ qi.drop (i + 1)), bZ a2' n2 n2 rs', Own rs' (E.set i0 gone), Blk b4 (.cells #[.slice none 0 0, .slice none 0 0] 57 (0, 0)), Blk b3 (.cells #[.int .i64 ((p : Int) + 1)] 3 (0, 0)), Blk b2 (.cells #[.slice (some ⟨b, o, none⟩) n n, .slice a2' n2 n2] 57 (0, 0))], ¬ c.foot k) := ⟨_, fun _ => Iff.rfl⟩
    refine J_draw (id := 16) ZZ [0, 1, 0, 0, 8, 0, 0, 64, 0, 448, 960, 1984, 0, 8128, 0, 16384, 0, 114688, 245760, 507904, 0, 2097088, 4194247, 8388551, 16777159, 33554431, 67108863, 134217727] [(0, false), (1, false), (2, false), (3, false), (4, false), (5, false), (6, false), (7, false), (8, false), (9, false), (10, false), (12, false), (14, false), (15, false), (16, false), (17, false), (18, false), (20, false), (11, false), (13, false), (19, false), (21, false), (22, false), (23, false), (24, false), (25, false), (26, false)] [27] cQ (by kernel_rfl) (by kernel_rfl) ?_
    intro _ hE _
    have hs : St w NoF _ ([row2 q, row3 q, TabN (some ⟨b, o, none⟩) n n (qi.map rawN)] ++ [row1 q, OwnN (qi.take i ++ qi.drop (i + 1)), bZ a2' n2 n2 rs', Own rs' (E.set i0 gone), Blk b4 (.cells #[.slice none 0 0, .slice none 0 0] 57 (0, 0)), Blk b3 (.cells #[.int .i64 ((p : Int) + 1)] 3 (0, 0)), Blk b2 (.cells #[.slice (some ⟨b, o, none⟩) n n, .slice a2' n2 n2] 57 (0, 0))]) := hs.ext hE
    repeat' (first | (apply nP; exact rfl; (intro W hRl; have hs := St.rlV (A := [_, _, _]) (C0 := [_, _, _, _, _, _, _]) hs hZZ hRl; first | (apply aB0; exact xI rfl aI) | (apply dE; first | exact cR rfl rfl aI | exact cS rfl rfl aI) | (apply dD; exact cX rfl rfl (by omega) (by omega) aI) | (apply aT; exact uX hs rfl rfl aI)); exact rfl))
    refine gM [11, 19] rfl (by kernel_rfl) ⟨?_, ?_, trivial⟩
    · have hsl : St w NoF _ [_, _, _, _, _, _, _, _, _, _] := hs
      refine lB (t := 72) [(13, false), (19, false), (21, false), (22, false), (23, false), (24, false), (25, false), (26, false)] (by kernel_rfl) (by kernel_rfl) (by kernel_rfl) (by kernel_rfl) rfl rfl (by apply aT; exact dG (b := b) (o := o) (off := i * 4 + 2) (n := n) (c := n) hsl rfl hc2 aI) (fun _ _ h9 => by rw [(lN h9).2]; exact Rl.refl _) ?_
      intro _ _ h9
      obtain ⟨rfl, rfl⟩ := lN h9
      clear hsl
      refine gM [13, 19] rfl (by kernel_rfl) ⟨?_, ?_, trivial⟩
      · have hz3 := St.zfoot (A := [_, _, _]) (C0 := [_, _, _, _, _, _, _]) hs hZZ
        have hb3 := gF (hs.all (Blk b3 (.cells #[.int .i64 ((p : Int) + 1)] 3 (0, 0))) (List.mem_append_right _ (.tail _ (.tail _ (.tail _ (.tail _ (.tail _ (.head _))))))))
        have hsc : St w NoF _ ([row2 q] ++ [_, _, _, _, _, _, _, _, _]) := hs
        have hne3 := kE (b := b3) (o := .cells #[.int .i64 ((p : Int) + 1)] 3 (0, 0)) hsc zmm
        refine lB (t := 74) [(19, false), (21, false), (22, false), (23, false), (24, false), (25, false), (26, false)] (by kernel_rfl) (by kernel_rfl) (by kernel_rfl) (by kernel_rfl) rfl rfl (iI (aA yR rfl (nI _ q.2.2.1.1.1 q.2.2.1.1.2.1 q.2.2.1.1.2.2 q.2.2.1.2 (St.held (A := [_]) hsc) o4 hn2' 108 #[ptr b3] yS (fun x => decide (x.2 = (p : Int) + 1)) (fun W hW x hx => lH W x _ b3 ((hW b3 (Array.getElem?_eq_some_iff.1 hb3).1 (fun hf => hne3 b3 ⟨_, List.mem_singleton_self _, gC hf⟩ rfl)).trans hb3)))) (fun k hk => hz3 k ⟨_, .head _, gC (iL hk)⟩)) (by rintro _ _ ⟨⟨rfl, ht⟩, hzz⟩; exact Frm.rlZ ht.frm hzz) ?_
        rintro _ _ ⟨⟨rfl, ht⟩, hzz⟩
        have hsd := St.take (A := [_]) (A' := [_]) (L := [_, _, _, _, _, _, _, _, _]) hsc ht
        have hs : St w NoF _ ([_, _, _] ++ [_, _, _, _, _, _, _]) := hsd
        clear hz3 hb3 hne3 hsc hsd ht hzz
        refine gM [19] rfl (by kernel_rfl) ⟨?_, trivial⟩
        have hsl : St w NoF _ [_, _, _, _, _, _, _, _, _, _] := hs
        refine lB (t := 80) [(21, false), (22, false), (23, false), (24, false), (25, false), (26, false)] (by kernel_rfl) (by kernel_rfl) (by kernel_rfl) (by kernel_rfl) rfl rfl (by apply aT; exact dG (b := b) (o := o) (off := i * 4 + 3) (n := n) (c := n) hsl rfl hc3 aI) (fun _ _ h9 => by rw [(lN h9).2]; exact Rl.refl _) ?_
        intro _ _ h9
        obtain ⟨rfl, rfl⟩ := lN h9
        clear hsl
        refine gM [21] rfl (by kernel_rfl) ⟨?_, trivial⟩
        have hz3 := St.zfoot (A := [_, _, _]) (C0 := [_, _, _, _, _, _, _]) hs hZZ
        have hb3 := gF (hs.all (Blk b3 (.cells #[.int .i64 ((p : Int) + 1)] 3 (0, 0))) (List.mem_append_right _ (.tail _ (.tail _ (.tail _ (.tail _ (.tail _ (.head _))))))))
        have hsc : St w NoF _ ([row3 q] ++ [_, _, _, _, _, _, _, _, _]) := (show St w NoF _ [_, _, _, _, _, _, _, _, _, _] from hs).sel [1, 0, 2, 3, 4, 5, 6, 7, 8, 9] (by decide)
        have hne3 := kE (b := b3) (o := .cells #[.int .i64 ((p : Int) + 1)] 3 (0, 0)) hsc zmm
        refine lB (t := 82) [(22, false), (23, false), (24, false), (25, false), (26, false)] (by kernel_rfl) (by kernel_rfl) (by kernel_rfl) (by kernel_rfl) rfl rfl (iI (aA yR rfl (nI _ q.2.2.2.1.1 q.2.2.2.1.2.1 q.2.2.2.1.2.2 q.2.2.2.2 (St.held (A := [_]) hsc) o6 hn3' 108 #[ptr b3] yS (fun x => decide (x.2 = (p : Int) + 1)) (fun W hW x hx => lH W x _ b3 ((hW b3 (Array.getElem?_eq_some_iff.1 hb3).1 (fun hf => hne3 b3 ⟨_, List.mem_singleton_self _, gC hf⟩ rfl)).trans hb3)))) (fun k hk => hz3 k ⟨_, .tail _ (.head _), gC (iL hk)⟩)) (by rintro _ _ ⟨⟨rfl, ht⟩, hzz⟩; exact Frm.rlZ ht.frm hzz) ?_
        rintro _ _ ⟨⟨rfl, ht⟩, hzz⟩
        have hsd := St.take (A := [_]) (A' := [_]) (L := [_, _, _, _, _, _, _, _, _]) hsc ht
        have hs : St w NoF _ ([_, _, _] ++ [_, _, _, _, _, _, _]) := (show St w NoF _ [_, _, _, _, _, _, _, _, _, _] from hsd).sel [1, 0, 2, 3, 4, 5, 6, 7, 8, 9] (by decide)
        clear hz3 hb3 hne3 hsc hsd ht hzz
        (apply nP; exact rfl; (intro W hRl; have hs := St.rlV (A := [_, _, _]) (C0 := [_, _, _, _, _, _, _]) hs hZZ hRl; first | (apply dE; first | exact cR rfl rfl aI | exact cS rfl rfl aI) | (apply dD; exact cX rfl rfl (by omega) (by omega) aI)); exact rfl)
        (apply nP; exact rfl; (intro W hRl; have hs := St.rlV (A := [_, _, _]) (C0 := [_, _, _, _, _, _, _]) hs hZZ hRl; first | (apply dE; first | exact cR rfl rfl aI | exact cS rfl rfl aI) | (apply dD; exact cX rfl rfl (by omega) (by omega) aI)); exact rfl)
        refine gM [24] rfl (by kernel_rfl) ⟨?_, trivial⟩
        have hz3 := St.zfoot (A := [_, _, _]) (C0 := [_, _, _, _, _, _, _]) hs hZZ
        have hsl : St w NoF _ [_, _, _, _, _, _, _, _, _, _] := hs
        refine aCk [(25, false), (26, false)] (by kernel_rfl) (by kernel_rfl) (by kernel_rfl) (by kernel_rfl) rfl rfl (iI (by apply aP; exact cD (b := b) (o := o) (off := i * 4 + 2) (n := n) (c := n) (vs := [.slice q.2.2.1.1.1 (cL q.2.2.1.2 ((p : Int) + 1)).length q.2.2.1.1.2.2]) hsl rfl rfl rfl rfl (by simp [Value.oneCell']) (by show i * 4 + 2 + 1 ≤ n * 4; omega)) (fun k hk => hz3 k ⟨_, .tail _ (.tail _ (.head _)), gC hk⟩)) (by rintro _ _ ⟨⟨_, hF⟩, hzz⟩; exact Frm.rlZ hF hzz) ?_
        rintro _ _ ⟨⟨hs, hF⟩, hzz⟩
        rw [hset24] at hs
        have hs : St w NoF _ ([_, _, _] ++ [_, _, _, _, _, _, _]) := hs
        clear hz3 hsl hF hzz
        (apply nP; exact rfl; (intro W hRl; have hs := St.rlV (A := [_, _, _]) (C0 := [_, _, _, _, _, _, _]) hs hZZ hRl; first | (apply dE; first | exact cR rfl rfl aI | exact cS rfl rfl aI) | (apply dD; exact cX rfl rfl (by omega) (by omega) aI)); exact rfl)
        (apply nP; exact rfl; (intro W hRl; have hs := St.rlV (A := [_, _, _]) (C0 := [_, _, _, _, _, _, _]) hs hZZ hRl; first | (apply dE; first | exact cR rfl rfl aI | exact cS rfl rfl aI) | (apply dD; exact cX rfl rfl (by omega) (by omega) aI)); exact rfl)
        (apply eS; case' hos => (simp only [List.map_cons, List.map_nil, List.getElem?_toArray, List.getElem?_cons_succ, List.getElem?_cons_zero]; repeat' (first | exact fS | apply eR)))
        apply aU
        have hsl : St w NoF _ [_, _, _, _, _, _, _, _, _, _] := hs
        refine JL_u (by apply aP; exact cD (b := b) (o := o) (off := i * 4 + 3) (n := n) (c := n) (vs := [.slice q.2.2.2.1.1 (cL q.2.2.2.2 ((p : Int) + 1)).length q.2.2.2.1.2.2]) hsl rfl rfl rfl rfl (by simp [Value.oneCell']) (by show i * 4 + 3 + 1 ≤ n * 4; omega)) rfl ?_
        rintro _ _ ⟨hs, hF⟩
        rw [hset27] at hs
        repeat' (first | (apply aH) | ((apply aC); exact zop; first | (exact rfl; exact rfl) | exact rfl) | (apply aB) | (apply aW))
        have hs := St.packN (q := (q.1, q.2.1, ((q.2.2.1.1.1, (cL q.2.2.1.2 ((p : Int) + 1)).length, q.2.2.1.1.2.2), cL q.2.2.1.2 ((p : Int) + 1)), ((q.2.2.2.1.1, (cL q.2.2.2.2 ((p : Int) + 1)).length, q.2.2.2.1.2.2), cL q.2.2.2.2 ((p : Int) + 1)))) (L := [OwnN (qi.take i ++ qi.drop (i + 1)), _, _, _, _, _, _]) (hs.sel [3, 0, 1, 4, 2, 5, 6, 7, 8, 9] (by decide))
        rw [← hqn] at hs
        have hs := St.putN hql1 hs
        refine ih (i + 1, qi.set i qn) _ _ ⟨by dsimp only; rw [hqnr]; exact hs, ⟨hqnm, iO hqoi hqno⟩, by dsimp only; omega⟩ (by dsimp only; omega) zss
      · have hsl : St w NoF _ [_, _, _, _, _, _, _, _, _, _] := hs
        refine lB (t := 80) [(13, false), (21, false), (22, false), (23, false), (24, false), (25, false), (26, false)] (by kernel_rfl) (by kernel_rfl) (by kernel_rfl) (by kernel_rfl) rfl rfl (by apply aT; exact dG (b := b) (o := o) (off := i * 4 + 3) (n := n) (c := n) hsl rfl hc3 aI) (fun _ _ h9 => by rw [(lN h9).2]; exact Rl.refl _) ?_
        intro _ _ h9
        obtain ⟨rfl, rfl⟩ := lN h9
        clear hsl
        refine gM [13] rfl (by kernel_rfl) ⟨?_, trivial⟩
        have hz3 := St.zfoot (A := [_, _, _]) (C0 := [_, _, _, _, _, _, _]) hs hZZ
        have hb3 := gF (hs.all (Blk b3 (.cells #[.int .i64 ((p : Int) + 1)] 3 (0, 0))) (List.mem_append_right _ (.tail _ (.tail _ (.tail _ (.tail _ (.tail _ (.head _))))))))
        have hsc : St w NoF _ ([row2 q] ++ [_, _, _, _, _, _, _, _, _]) := hs
        have hne3 := kE (b := b3) (o := .cells #[.int .i64 ((p : Int) + 1)] 3 (0, 0)) hsc zmm
        refine lB (t := 74) [(21, false), (22, false), (23, false), (24, false), (25, false), (26, false)] (by kernel_rfl) (by kernel_rfl) (by kernel_rfl) (by kernel_rfl) rfl rfl (iI (aA yR rfl (nI _ q.2.2.1.1.1 q.2.2.1.1.2.1 q.2.2.1.1.2.2 q.2.2.1.2 (St.held (A := [_]) hsc) o4 hn2' 108 #[ptr b3] yS (fun x => decide (x.2 = (p : Int) + 1)) (fun W hW x hx => lH W x _ b3 ((hW b3 (Array.getElem?_eq_some_iff.1 hb3).1 (fun hf => hne3 b3 ⟨_, List.mem_singleton_self _, gC hf⟩ rfl)).trans hb3)))) (fun k hk => hz3 k ⟨_, .head _, gC (iL hk)⟩)) (by rintro _ _ ⟨⟨rfl, ht⟩, hzz⟩; exact Frm.rlZ ht.frm hzz) ?_
        rintro _ _ ⟨⟨rfl, ht⟩, hzz⟩
        have hsd := St.take (A := [_]) (A' := [_]) (L := [_, _, _, _, _, _, _, _, _]) hsc ht
        have hs : St w NoF _ ([_, _, _] ++ [_, _, _, _, _, _, _]) := hsd
        clear hz3 hb3 hne3 hsc hsd ht hzz
        refine gM [21] rfl (by kernel_rfl) ⟨?_, trivial⟩
        have hz3 := St.zfoot (A := [_, _, _]) (C0 := [_, _, _, _, _, _, _]) hs hZZ
        have hb3 := gF (hs.all (Blk b3 (.cells #[.int .i64 ((p : Int) + 1)] 3 (0, 0))) (List.mem_append_right _ (.tail _ (.tail _ (.tail _ (.tail _ (.tail _ (.head _))))))))
        have hsc : St w NoF _ ([row3 q] ++ [_, _, _, _, _, _, _, _, _]) := (show St w NoF _ [_, _, _, _, _, _, _, _, _, _] from hs).sel [1, 0, 2, 3, 4, 5, 6, 7, 8, 9] (by decide)
        have hne3 := kE (b := b3) (o := .cells #[.int .i64 ((p : Int) + 1)] 3 (0, 0)) hsc zmm
        refine lB (t := 82) [(22, false), (23, false), (24, false), (25, false), (26, false)] (by kernel_rfl) (by kernel_rfl) (by kernel_rfl) (by kernel_rfl) rfl rfl (iI (aA yR rfl (nI _ q.2.2.2.1.1 q.2.2.2.1.2.1 q.2.2.2.1.2.2 q.2.2.2.2 (St.held (A := [_]) hsc) o6 hn3' 108 #[ptr b3] yS (fun x => decide (x.2 = (p : Int) + 1)) (fun W hW x hx => lH W x _ b3 ((hW b3 (Array.getElem?_eq_some_iff.1 hb3).1 (fun hf => hne3 b3 ⟨_, List.mem_singleton_self _, gC hf⟩ rfl)).trans hb3)))) (fun k hk => hz3 k ⟨_, .tail _ (.head _), gC (iL hk)⟩)) (by rintro _ _ ⟨⟨rfl, ht⟩, hzz⟩; exact Frm.rlZ ht.frm hzz) ?_
        rintro _ _ ⟨⟨rfl, ht⟩, hzz⟩
        have hsd := St.take (A := [_]) (A' := [_]) (L := [_, _, _, _, _, _, _, _, _]) hsc ht
        have hs : St w NoF _ ([_, _, _] ++ [_, _, _, _, _, _, _]) := (show St w NoF _ [_, _, _, _, _, _, _, _, _, _] from hsd).sel [1, 0, 2, 3, 4, 5, 6, 7, 8, 9] (by decide)
        clear hz3 hb3 hne3 hsc hsd ht hzz
        (apply nP; exact rfl; (intro W hRl; have hs := St.rlV (A := [_, _, _]) (C0 := [_, _, _, _, _, _, _]) hs hZZ hRl; first | (apply dE; first | exact cR rfl rfl aI | exact cS rfl rfl aI) | (apply dD; exact cX rfl rfl (by omega) (by omega) aI)); exact rfl)
        (apply nP; exact rfl; (intro W hRl; have hs := St.rlV (A := [_, _, _]) (C0 := [_, _, _, _, _, _, _]) hs hZZ hRl; first | (apply dE; first | exact cR rfl rfl aI | exact cS rfl rfl aI) | (apply dD; exact cX rfl rfl (by omega) (by omega) aI)); exact rfl)
        refine gM [24] rfl (by kernel_rfl) ⟨?_, trivial⟩
        have hz3 := St.zfoot (A := [_, _, _]) (C0 := [_, _, _, _, _, _, _]) hs hZZ
        have hsl : St w NoF _ [_, _, _, _, _, _, _, _, _, _] := hs
        refine aCk [(25, false), (26, false)] (by kernel_rfl) (by kernel_rfl) (by kernel_rfl) (by kernel_rfl) rfl rfl (iI (by apply aP; exact cD (b := b) (o := o) (off := i * 4 + 2) (n := n) (c := n) (vs := [.slice q.2.2.1.1.1 (cL q.2.2.1.2 ((p : Int) + 1)).length q.2.2.1.1.2.2]) hsl rfl rfl rfl rfl (by simp [Value.oneCell']) (by show i * 4 + 2 + 1 ≤ n * 4; omega)) (fun k hk => hz3 k ⟨_, .tail _ (.tail _ (.head _)), gC hk⟩)) (by rintro _ _ ⟨⟨_, hF⟩, hzz⟩; exact Frm.rlZ hF hzz) ?_
        rintro _ _ ⟨⟨hs, hF⟩, hzz⟩
        rw [hset24] at hs
        have hs : St w NoF _ ([_, _, _] ++ [_, _, _, _, _, _, _]) := hs
        clear hz3 hsl hF hzz
        (apply nP; exact rfl; (intro W hRl; have hs := St.rlV (A := [_, _, _]) (C0 := [_, _, _, _, _, _, _]) hs hZZ hRl; first | (apply dE; first | exact cR rfl rfl aI | exact cS rfl rfl aI) | (apply dD; exact cX rfl rfl (by omega) (by omega) aI)); exact rfl)
        (apply nP; exact rfl; (intro W hRl; have hs := St.rlV (A := [_, _, _]) (C0 := [_, _, _, _, _, _, _]) hs hZZ hRl; first | (apply dE; first | exact cR rfl rfl aI | exact cS rfl rfl aI) | (apply dD; exact cX rfl rfl (by omega) (by omega) aI)); exact rfl)
        (apply eS; case' hos => (simp only [List.map_cons, List.map_nil, List.getElem?_toArray, List.getElem?_cons_succ, List.getElem?_cons_zero]; repeat' (first | exact fS | apply eR)))
        apply aU
        have hsl : St w NoF _ [_, _, _, _, _, _, _, _, _, _] := hs
        refine JL_u (by apply aP; exact cD (b := b) (o := o) (off := i * 4 + 3) (n := n) (c := n) (vs := [.slice q.2.2.2.1.1 (cL q.2.2.2.2 ((p : Int) + 1)).length q.2.2.2.1.2.2]) hsl rfl rfl rfl rfl (by simp [Value.oneCell']) (by show i * 4 + 3 + 1 ≤ n * 4; omega)) rfl ?_
        rintro _ _ ⟨hs, hF⟩
        rw [hset27] at hs
        repeat' (first | (apply aH) | ((apply aC); exact zop; first | (exact rfl; exact rfl) | exact rfl) | (apply aB) | (apply aW))
        have hs := St.packN (q := (q.1, q.2.1, ((q.2.2.1.1.1, (cL q.2.2.1.2 ((p : Int) + 1)).length, q.2.2.1.1.2.2), cL q.2.2.1.2 ((p : Int) + 1)), ((q.2.2.2.1.1, (cL q.2.2.2.2 ((p : Int) + 1)).length, q.2.2.2.1.2.2), cL q.2.2.2.2 ((p : Int) + 1)))) (L := [OwnN (qi.take i ++ qi.drop (i + 1)), _, _, _, _, _, _]) (hs.sel [3, 0, 1, 4, 2, 5, 6, 7, 8, 9] (by decide))
        rw [← hqn] at hs
        have hs := St.putN hql1 hs
        refine ih (i + 1, qi.set i qn) _ _ ⟨by dsimp only; rw [hqnr]; exact hs, ⟨hqnm, iO hqoi hqno⟩, by dsimp only; omega⟩ (by dsimp only; omega) zss
    · have hsl : St w NoF _ [_, _, _, _, _, _, _, _, _, _] := hs
      refine lB (t := 80) [(11, false), (13, false), (21, false), (22, false), (23, false), (24, false), (25, false), (26, false)] (by kernel_rfl) (by kernel_rfl) (by kernel_rfl) (by kernel_rfl) rfl rfl (by apply aT; exact dG (b := b) (o := o) (off := i * 4 + 3) (n := n) (c := n) hsl rfl hc3 aI) (fun _ _ h9 => by rw [(lN h9).2]; exact Rl.refl _) ?_
      intro _ _ h9
      obtain ⟨rfl, rfl⟩ := lN h9
      clear hsl
      refine gM [11] rfl (by kernel_rfl) ⟨?_, trivial⟩
      have hsl : St w NoF _ [_, _, _, _, _, _, _, _, _, _] := hs
      refine lB (t := 72) [(13, false), (21, false), (22, false), (23, false), (24, false), (25, false), (26, false)] (by kernel_rfl) (by kernel_rfl) (by kernel_rfl) (by kernel_rfl) rfl rfl (by apply aT; exact dG (b := b) (o := o) (off := i * 4 + 2) (n := n) (c := n) hsl rfl hc2 aI) (fun _ _ h9 => by rw [(lN h9).2]; exact Rl.refl _) ?_
      intro _ _ h9
      obtain ⟨rfl, rfl⟩ := lN h9
      clear hsl
      refine gM [13] rfl (by kernel_rfl) ⟨?_, trivial⟩
      have hz3 := St.zfoot (A := [_, _, _]) (C0 := [_, _, _, _, _, _, _]) hs hZZ
      have hb3 := gF (hs.all (Blk b3 (.cells #[.int .i64 ((p : Int) + 1)] 3 (0, 0))) (List.mem_append_right _ (.tail _ (.tail _ (.tail _ (.tail _ (.tail _ (.head _))))))))
      have hsc : St w NoF _ ([row2 q] ++ [_, _, _, _, _, _, _, _, _]) := hs
      have hne3 := kE (b := b3) (o := .cells #[.int .i64 ((p : Int) + 1)] 3 (0, 0)) hsc zmm
      refine lB (t := 74) [(21, false), (22, false), (23, false), (24, false), (25, false), (26, false)] (by kernel_rfl) (by kernel_rfl) (by kernel_rfl) (by kernel_rfl) rfl rfl (iI (aA yR rfl (nI _ q.2.2.1.1.1 q.2.2.1.1.2.1 q.2.2.1.1.2.2 q.2.2.1.2 (St.held (A := [_]) hsc) o4 hn2' 108 #[ptr b3] yS (fun x => decide (x.2 = (p : Int) + 1)) (fun W hW x hx => lH W x _ b3 ((hW b3 (Array.getElem?_eq_some_iff.1 hb3).1 (fun hf => hne3 b3 ⟨_, List.mem_singleton_self _, gC hf⟩ rfl)).trans hb3)))) (fun k hk => hz3 k ⟨_, .head _, gC (iL hk)⟩)) (by rintro _ _ ⟨⟨rfl, ht⟩, hzz⟩; exact Frm.rlZ ht.frm hzz) ?_
      rintro _ _ ⟨⟨rfl, ht⟩, hzz⟩
      have hsd := St.take (A := [_]) (A' := [_]) (L := [_, _, _, _, _, _, _, _, _]) hsc ht
      have hs : St w NoF _ ([_, _, _] ++ [_, _, _, _, _, _, _]) := hsd
      clear hz3 hb3 hne3 hsc hsd ht hzz
      refine gM [21] rfl (by kernel_rfl) ⟨?_, trivial⟩
      have hz3 := St.zfoot (A := [_, _, _]) (C0 := [_, _, _, _, _, _, _]) hs hZZ
      have hb3 := gF (hs.all (Blk b3 (.cells #[.int .i64 ((p : Int) + 1)] 3 (0, 0))) (List.mem_append_right _ (.tail _ (.tail _ (.tail _ (.tail _ (.tail _ (.head _))))))))
      have hsc : St w NoF _ ([row3 q] ++ [_, _, _, _, _, _, _, _, _]) := (show St w NoF _ [_, _, _, _, _, _, _, _, _, _] from hs).sel [1, 0, 2, 3, 4, 5, 6, 7, 8, 9] (by decide)
      have hne3 := kE (b := b3) (o := .cells #[.int .i64 ((p : Int) + 1)] 3 (0, 0)) hsc zmm
      refine lB (t := 82) [(22, false), (23, false), (24, false), (25, false), (26, false)] (by kernel_rfl) (by kernel_rfl) (by kernel_rfl) (by kernel_rfl) rfl rfl (iI (aA yR rfl (nI _ q.2.2.2.1.1 q.2.2.2.1.2.1 q.2.2.2.1.2.2 q.2.2.2.2 (St.held (A := [_]) hsc) o6 hn3' 108 #[ptr b3] yS (fun x => decide (x.2 = (p : Int) + 1)) (fun W hW x hx => lH W x _ b3 ((hW b3 (Array.getElem?_eq_some_iff.1 hb3).1 (fun hf => hne3 b3 ⟨_, List.mem_singleton_self _, gC hf⟩ rfl)).trans hb3)))) (fun k hk => hz3 k ⟨_, .tail _ (.head _), gC (iL hk)⟩)) (by rintro _ _ ⟨⟨rfl, ht⟩, hzz⟩; exact Frm.rlZ ht.frm hzz) ?_
      rintro _ _ ⟨⟨rfl, ht⟩, hzz⟩
      have hsd := St.take (A := [_]) (A' := [_]) (L := [_, _, _, _, _, _, _, _, _]) hsc ht
      have hs : St w NoF _ ([_, _, _] ++ [_, _, _, _, _, _, _]) := (show St w NoF _ [_, _, _, _, _, _, _, _, _, _] from hsd).sel [1, 0, 2, 3, 4, 5, 6, 7, 8, 9] (by decide)
      clear hz3 hb3 hne3 hsc hsd ht hzz
      (apply nP; exact rfl; (intro W hRl; have hs := St.rlV (A := [_, _, _]) (C0 := [_, _, _, _, _, _, _]) hs hZZ hRl; first | (apply dE; first | exact cR rfl rfl aI | exact cS rfl rfl aI) | (apply dD; exact cX rfl rfl (by omega) (by omega) aI)); exact rfl)
      (apply nP; exact rfl; (intro W hRl; have hs := St.rlV (A := [_, _, _]) (C0 := [_, _, _, _, _, _, _]) hs hZZ hRl; first | (apply dE; first | exact cR rfl rfl aI | exact cS rfl rfl aI) | (apply dD; exact cX rfl rfl (by omega) (by omega) aI)); exact rfl)
      refine gM [24] rfl (by kernel_rfl) ⟨?_, trivial⟩
      have hz3 := St.zfoot (A := [_, _, _]) (C0 := [_, _, _, _, _, _, _]) hs hZZ
      have hsl : St w NoF _ [_, _, _, _, _, _, _, _, _, _] := hs
      refine aCk [(25, false), (26, false)] (by kernel_rfl) (by kernel_rfl) (by kernel_rfl) (by kernel_rfl) rfl rfl (iI (by apply aP; exact cD (b := b) (o := o) (off := i * 4 + 2) (n := n) (c := n) (vs := [.slice q.2.2.1.1.1 (cL q.2.2.1.2 ((p : Int) + 1)).length q.2.2.1.1.2.2]) hsl rfl rfl rfl rfl (by simp [Value.oneCell']) (by show i * 4 + 2 + 1 ≤ n * 4; omega)) (fun k hk => hz3 k ⟨_, .tail _ (.tail _ (.head _)), gC hk⟩)) (by rintro _ _ ⟨⟨_, hF⟩, hzz⟩; exact Frm.rlZ hF hzz) ?_
      rintro _ _ ⟨⟨hs, hF⟩, hzz⟩
      rw [hset24] at hs
      have hs : St w NoF _ ([_, _, _] ++ [_, _, _, _, _, _, _]) := hs
      clear hz3 hsl hF hzz
      (apply nP; exact rfl; (intro W hRl; have hs := St.rlV (A := [_, _, _]) (C0 := [_, _, _, _, _, _, _]) hs hZZ hRl; first | (apply dE; first | exact cR rfl rfl aI | exact cS rfl rfl aI) | (apply dD; exact cX rfl rfl (by omega) (by omega) aI)); exact rfl)
      (apply nP; exact rfl; (intro W hRl; have hs := St.rlV (A := [_, _, _]) (C0 := [_, _, _, _, _, _, _]) hs hZZ hRl; first | (apply dE; first | exact cR rfl rfl aI | exact cS rfl rfl aI) | (apply dD; exact cX rfl rfl (by omega) (by omega) aI)); exact rfl)
      (apply eS; case' hos => (simp only [List.map_cons, List.map_nil, List.getElem?_toArray, List.getElem?_cons_succ, List.getElem?_cons_zero]; repeat' (first | exact fS | apply eR)))
      apply aU
      have hsl : St w NoF _ [_, _, _, _, _, _, _, _, _, _] := hs
      refine JL_u (by apply aP; exact cD (b := b) (o := o) (off := i * 4 + 3) (n := n) (c := n) (vs := [.slice q.2.2.2.1.1 (cL q.2.2.2.2 ((p : Int) + 1)).length q.2.2.2.1.2.2]) hsl rfl rfl rfl rfl (by simp [Value.oneCell']) (by show i * 4 + 3 + 1 ≤ n * 4; omega)) rfl ?_
      rintro _ _ ⟨hs, hF⟩
      rw [hset27] at hs
      repeat' (first | (apply aH) | ((apply aC); exact zop; first | (exact rfl; exact rfl) | exact rfl) | (apply aB) | (apply aW))
      have hs := St.packN (q := (q.1, q.2.1, ((q.2.2.1.1.1, (cL q.2.2.1.2 ((p : Int) + 1)).length, q.2.2.1.1.2.2), cL q.2.2.1.2 ((p : Int) + 1)), ((q.2.2.2.1.1, (cL q.2.2.2.2 ((p : Int) + 1)).length, q.2.2.2.1.2.2), cL q.2.2.2.2 ((p : Int) + 1)))) (L := [OwnN (qi.take i ++ qi.drop (i + 1)), _, _, _, _, _, _]) (hs.sel [3, 0, 1, 4, 2, 5, 6, 7, 8, 9] (by decide))
      rw [← hqn] at hs
      have hs := St.putN hql1 hs
      refine ih (i + 1, qi.set i qn) _ _ ⟨by dsimp only; rw [hqnr]; exact hs, ⟨hqnm, iO hqoi hqno⟩, by dsimp only; omega⟩ (by dsimp only; omega) zss
  · have hin2 : i = n := by omega
    subst hin2
    rw [List.take_of_length_le (by omega), List.drop_of_length_le (by omega), List.append_nil, hN1, away_map] at hqmi
    obtain ⟨ML, hML⟩ : ∃ l, l = N.mapIdx (offN p) := ⟨_, rfl⟩
    rw [← hML] at hqmi
    have hMLl : ML.length = i := by rw [hML, List.length_mapIdx, hl]
    have hdN : gK N p = ML.take (gI ML i) := by rw [hML]; unfold gK rQ; rw [List.length_mapIdx, hl]
    obtain ⟨x0, hx00, hxu0, _⟩ := g.first
    have hp0 : p ≠ 0 := fun e => h1 (by rw [e]; rfl)
    have hM0 : (ML.getD 0 n0).1 = true := by
      have : ML[0]? = some (offN p 0 x0) := by rw [hML, List.getElem?_mapIdx, hx00]; rfl
      rw [cK this, fR (fun e => hp0 e.symm)]
      exact hxu0
    have hlast1 : ∀ k, 1 ≤ k → 1 ≤ gI ML k := by
      intro k hk
      induction k with
      | zero => omega
      | succ k ihk =>
        unfold gI
        by_cases c9 : (ML.getD k n0).1 = true
        · rw [if_pos c9]; omega
        · rw [if_neg c9]
          by_cases e9 : k = 0
          · subst e9; exact absurd hM0 c9
          · exact ihk (by omega)
    repeat' (first | (apply aH) | ((apply aC); exact zop; first | (exact rfl; exact rfl) | exact rfl) | (apply aQ) | (apply aB) | (apply aN) | (apply bG; refine bP rfl ?_) | (apply aG; refine aZ rfl ob ?_))
    clear ih
    refine bT (α := Nat) [(2, _), (4, _)] (fun m => [(11, .int .i64 m)]) (fun m w' => St w NoF w' [OwnN qi, TabN (some ⟨b, o, none⟩) i i (qi.map rawN), bZ a2' n2 n2 rs', Own rs' (E.set i0 gone), Blk b4 (.cells #[.slice none 0 0, .slice none 0 0] 57 (0, 0)), Blk b3 (.cells #[.int .i64 ((p : Int) + 1)] 3 (0, 0)), Blk b2 (.cells #[.slice (some ⟨b, o, none⟩) i i, .slice a2' n2 n2] 57 (0, 0))] ∧ (1 ≤ m ∧ m ≤ i) ∧ gI ML i = gI ML m) (fun m => m) i ⟨hs, ⟨by omega, Nat.le_refl _⟩, rfl⟩ zss ?_
    rintro m w3 ⟨hs3, ⟨hm1, hmi⟩, hlu⟩ ih
    have hs : St w NoF w3 [_, _, _, _, _, _, _] := hs3
    have hmi2 : inK .i64 (m : Int) := by unfold inK; simp only [IntKind.min, IntKind.max, IntKind.bits, IntKind.signed]; omega
    have hgm : ML[m - 1]? = some (ML[m - 1]'(by omega)) := List.getElem?_eq_getElem (by omega)
    have hsl : ∀ {W : World} {L : List HP}, St w NoF W L → TabN (some ⟨b, o, none⟩) i i (qi.map rawN) ∈ L → OwnN qi ∈ L → Sl eD All W (some ⟨b, o, none⟩) i i ML := fun hs u1 u2 => Sl.to hqmi (slN hs u1 u2 hqoi)
    have hlm : gI ML m = if (ML.getD (m - 1) n0).1 then m else gI ML (m - 1) := by
      obtain ⟨k, rfl⟩ : ∃ k, m = k + 1 := ⟨m - 1, by omega⟩
      rw [Nat.add_sub_cancel]; rfl
    obtain ⟨ub, hub⟩ : ∃ u, (ML.getD (m - 1) n0).1 = u := ⟨_, rfl⟩
    have his : isM ML (m : Int) = ub := by
      unfold isM
      rw [decide_eq_true (by omega), show ((m : Int) - 1).toNat = m - 1 by omega, hub]; rfl
    rw [hub] at hlm
    cases ub with
    | false =>
      rw [if_neg (by decide)] at hlm
      have hm2 : 2 ≤ m := Decidable.by_contra fun c9 => by
        have := hlast1 m hm1
        rw [hlm, show m - 1 = 0 by omega] at this
        unfold gI at this
        omega
      repeat' (first | ((apply aL 105; refine JL_o (by exact aA eO rfl (is_r _ (some ⟨b, o, none⟩) a2' i i n2 n2 ML (m : Int) (hsl hs zmm zmm) hmi2)) rfl rfl ?_; rintro _ _ ⟨rfl, hE⟩; rw [his]; have hs := hs.ext hE; (try simp only [zcc] at hs))) | (apply aH) | ((apply aC); exact zop; first | (exact rfl; exact rfl) | exact rfl) | (apply aQ) | (apply aB) | (apply aN) | (apply aW) | (apply aV) | (apply aG; refine bB rfl gb ?_))
      refine ih (m - 1) _ _ ⟨hs, ⟨by omega, by omega⟩, hlu.trans hlm⟩ (by omega) ?_
      rw [show ((m - 1 : Nat) : Int) = (m : Int) - 1 by omega]
      repeat' (first | exact trivial | exact rfl | apply And.intro)
    | true =>
      rw [if_pos rfl] at hlm
      repeat' (first | ((apply aL 105; refine JL_o (by exact aA eO rfl (is_r _ (some ⟨b, o, none⟩) a2' i i n2 n2 ML (m : Int) (hsl hs zmm zmm) hmi2)) rfl rfl ?_; rintro _ _ ⟨rfl, hE⟩; rw [his]; have hs := hs.ext hE; (try simp only [zcc] at hs))) | (apply aH) | ((apply aC); (first | (apply dA; exact dO (kl := .i64) (kh := .i64) (km := .i64) (a' := some ⟨b, o, none⟩) (l := 0) (h := (m : Int)) (m := (m : Int)) rfl (.inl ⟨rfl, rfl⟩) (.inr ⟨_, rfl, rfl⟩) (.inr ⟨_, rfl, rfl⟩) (by omega) (by omega) (by omega) (by omega) (by split; rfl; exact zB _) (by rw [Int.sub_zero, Int.toNat_natCast]; exact aI)) | exact zop); first | (exact rfl; exact rfl) | exact rfl) | (apply aQ) | (apply aB) | (apply bG; refine bP rfl ?_) | (apply aU; refine JL_u (by apply aP; exact aK hs rfl rfl rfl) rfl ?_; rintro _ _ ⟨hs, hF⟩) | (apply aG; refine bD rfl gb ?_))
      have hs := St.cutN m (hs.sel [0, 1, 2, 3, 4] (by decide))
      have hs := St.cutRow (L := [_, _, _, _]) (hs.sel [1, 0, 2, 3, 4] (by decide)) m m hmi (Nat.le_refl _) hmi
      have hct : (encL cNd (qi.map rawN)).take (m * 4) = encL cNd ((qi.take m).map rawN) := by rw [List.map_take]; exact (iE (d := dRNd) (qi.map rawN) m).symm
      rw [hct] at hs
      have hdl : (gK N p).length = m := by rw [hdN, hlu, hlm, List.length_take]; omega
      refine aM Tryz.func38 rfl (.agg' hs rfl rfl (.tmp rfl .nil)) (.inr ⟨rfl, some ⟨b, o, none⟩, m, m, a2', n2, n2, rfl, hmi, qi.take m, E.set i0 gone, rs', ⟨by rw [List.map_take, hqmi, hdN, hlu, hlm], fun u hu => hqoi u (List.mem_of_mem_take hu)⟩, ⟨nL hcE he0 he01, uG hc hxp hxu he0 he01 he0t⟩, ⟨hdl, (gone_len i0).trans hl2, hn2⟩, hs.out (.cons_cons _ (.cons_cons _ (.cons_cons _ (.cons_cons _ (List.nil_sublist _)))))⟩)
end Go.Eng
end
section
namespace Go.Eng
open Go.Proofs
set_option linter.unusedSimpArgs false
set_option linter.unusedVariables false
def ofE (N : List NM) (E : List Ent) (t : List Int) : Int := if dP N E then ofC N t else 220
abbrev zG : Value := .agg #[.slice none 0 0, .slice none 0 0]
def GRes (w : World) (e : Int) (n : Int) (N' : List NM) (mx : Nat) (v : Value) (w' : World) : Prop :=
  (e ≠ 0 ∧ v = .tuple #[zG, .int .i64 0, .int .i64 e] ∧ Ext w w') ∨
  (e = 0 ∧ ∃ a' m' c' a2' m2 c2', v = .tuple #[.agg #[.slice a' m' c', .slice a2' m2 c2'], .int .i64 n, .int .i64 0] ∧ m' ≤ mx ∧ GOut w w' N' a' m' c' a2' m2 c2')
theorem GRes.bad {w w' : World} {e n : Int} {N' : List NM} {mx : Nat} {v : Value} (h : GRes w e n N' mx v w') (he : e ≠ 0) : v = .tuple #[zG, .int .i64 0, .int .i64 e] ∧ Ext w w' := by
  rcases h with ⟨_, r⟩ | ⟨h2, _⟩
  · exact r
  · exact absurd h2 he
theorem GRes.ok {w w' : World} {e n : Int} {N' : List NM} {mx : Nat} {v : Value} (h : GRes w e n N' mx v w') (he : e = 0) : ∃ a' m' c' a2' m2 c2', v = .tuple #[.agg #[.slice a' m' c', .slice a2' m2 c2'], .int .i64 n, .int .i64 0] ∧ m' ≤ mx ∧ GOut w w' N' a' m' c' a2' m2 c2' := by
  rcases h with ⟨h2, _⟩ | ⟨_, r⟩
  · exact absurd he h2
  · exact r
abbrev N00 : List NM := [newN []]
theorem gr_new : GR N00 := nodes_iff.1 (by decide)
theorem put_new {es : List Ent} (hc : cH es = true) (hp : (es.filter dI).Perm (allM (newE 8) ++ [(1, [], 1)])) : allM es = dZ N00 := by
  refine aB3 hc gr_new.uniq fun e => ?_
  rw [hp.mem_iff, aB2, List.nil_append, ents_mem, List.mem_singleton]
  constructor
  · rintro rfl; exact ⟨0, newN [], rfl, rfl, rfl⟩
  · rintro ⟨j, x, hx, hu, rfl⟩
    cases j with
    | zero => cases hx; rfl
    | succ j => cases hx
theorem putE_new : putE (newE 8) [] 1 = 0 := aAh aBx tw0 (by omega) (fun y hy => by rw [show (newE 8).filter dI = [] by decide] at hy; cases hy) (by rw [aB2]; decide)
attribute [local irreducible] Hold J JL JD JX JXat OpR OpG Ret RetV Is Blk Row
set_option maxRecDepth 100000
set_option maxHeartbeats 1000000
theorem gnew_r (w : World) : Ret Tryz.prog 54 #[] w fun v w' => ∃ a' c' a2' m2 c2', v = .agg #[.slice a' 1 c', .slice a2' m2 c2'] ∧ GOut w w' N00 a' 1 c' a2' m2 c2' := by
  refine bI (l := []) Tryz.func54 rfl Tryz.ntmps54 (by simp) ?_
  have hs := St.init w
  have h1i : inK .i64 (1 : Int) := by unfold inK; simp only [IntKind.min, IntKind.max, IntKind.bits, IntKind.signed]; omega
  repeat' (first | ((apply aL 133; refine JL_o (by exact aA en133 rfl (new_r _)) rfl rfl ?_; rintro _ _ ⟨a1, rfl, hf⟩; have hs := hs.fresh hf; (try simp only [zcc] at hs))) | ((apply aL 132; refine JL_o (by exact aA en132 rfl (aAf _ a1 8 8 (newE 8) none 0 0 [] 1 (eM hs zmm zmm) (by omega) (fE _ _ _) h1i putE_new)) rfl rfl ?_; rintro _ _ ⟨es1, rs1, a4, ⟨hce1, hpe1, hle1⟩, rfl, hf⟩; have hs := hs.fresh hf; (try simp only [zcc] at hs))) | (apply aH) | ((apply aC); exact zop; first | (exact rfl; exact rfl) | exact rfl) | (apply aQ) | (apply aB) | (apply aF (t := 0); refine JL_o (by apply aR; exact aJ hs) rfl rfl ?_; rintro _ _ ⟨b0, rfl, hb0, hs, hE⟩) | (apply aF (t := 1); refine JL_o (by apply aR; exact aJ hs) rfl rfl ?_; rintro _ _ ⟨b1, rfl, hb1, hs, hE⟩) | (apply aF (t := 9); refine JL_o (by apply bJ; exact bF hs rfl (by omega) rfl) rfl rfl ?_; rintro _ _ ⟨b9, rfl, hb9, hs, hE⟩) | (apply aU; refine JL_u (by apply aP; exact aK hs rfl rfl rfl) rfl ?_; rintro _ _ ⟨hs, hF⟩))
  have hs := St.toRow (L := [_, _, _]) (hs.sel [0, 2, 3, 6] (by decide)) 0 1 1 4 (xs := encL cNd [rNew z0]) (Nat.le_refl _) (by unfold maxLen; omega) (by decide) rfl
  have hs := St.pushN (hs.nilN.zeroN true)
  refine aM Tryz.func54 rfl (.agg' hs rfl rfl .nil) ⟨_, 1, a4, es1.length, es1.length, rfl, [(true, (z0, []), (z0, []), (z0, []))], es1, rs1, ⟨rfl, fun q hq => by rw [List.mem_singleton.1 hq]; exact wP true⟩, ⟨hce1, put_new hce1 hpe1⟩, ⟨rfl, rfl, hle1⟩, (hs.sel [1, 0, 2, 3] (by decide)).out (List.Sublist.refl _)⟩
theorem pK (w : World) (a a2 : Option Addr) (n c n2 c2 : Nat) (N : List NM) (E : List Ent) (X0 id : Int) (h : Sl eD All w a n c N) (hE0 : Sl dEnt All w a2 n2 c2 E) (hn : n ≤ 900000) (hn2 : n2 ≤ 1048576) (hz : szN N) (hx0 : inK .i64 X0) (hid : okId id) :
    Ret Tryz.prog 35 #[.agg #[.slice a n c, .slice a2 n2 c2], .int .i64 X0, .int .u64 id] w (GRes w (goE N E X0 id true) (gon N X0 id true) (goL N X0 id true) (n + 1)) := by
  refine bI (l := [_, _, _]) Tryz.func35 rfl Tryz.ntmps35 (by simp) ?_
  have hs := St.init w
  by_cases he : goE N E X0 id true = 0
  · repeat' (first | ((apply aL 100; refine JL_o (by exact aA en100 rfl ((aA3 _ a a2 n c n2 c2 N E X0 id (h.st hs) (hE0.st hs) hn hn2 hz hx0 hid).mono (fun _ _ r => GRes.ok (mx := n + 1) r he))) rfl rfl ?_; rintro _ _ ⟨a', m', c', a2', m2, c2', rfl, hm', qs, es, rs', hq, hce, hnl, hf⟩; have hs := hs.fresh hf; (try simp only [zcc] at hs))) | (apply aH) | ((apply aC); exact zop; first | (exact rfl; exact rfl) | exact rfl) | (apply aQ) | (apply aB) | (apply aF (t := 3); refine JL_o (by apply bN; exact bC hs rfl) rfl rfl ?_; rintro _ _ ⟨b3, rfl, hb3, hs, hE⟩) | (apply aF (t := 6); refine JL_o (by apply aR; exact aJ hs) rfl rfl ?_; rintro _ _ ⟨b6, rfl, hb6, hs, hE⟩) | (apply aU; refine JL_u (by apply aP; exact aK hs rfl rfl rfl) rfl ?_; rintro _ _ ⟨hs, hF⟩))
    refine aM Tryz.func35 rfl (.agg' hs rfl rfl (.tmp rfl (.tmp rfl .nil))) (.inr ⟨he, a', m', c', a2', m2, c2', rfl, hm', qs, es, rs', hq, hce, hnl, hs.out (.cons_cons _ (.cons_cons _ (.cons_cons _ (.cons_cons _ (List.nil_sublist _)))))⟩)
  · repeat' (first | ((apply aL 100; refine JL_o (by exact aA en100 rfl ((aA3 _ a a2 n c n2 c2 N E X0 id (h.st hs) (hE0.st hs) hn hn2 hz hx0 hid).mono (fun _ _ r => GRes.bad (mx := n + 1) r he))) rfl rfl ?_; rintro _ _ ⟨rfl, hE⟩; have hs := hs.ext hE; (try simp only [zcc] at hs))) | (apply aH) | ((apply aC); exact zop; first | (exact rfl; exact rfl) | exact rfl) | (apply aQ) | (apply aB) | (apply aF (t := 3); refine JL_o (by apply bN; exact bC hs rfl) rfl rfl ?_; rintro _ _ ⟨b3, rfl, hb3, hs, hE⟩) | (apply aF (t := 6); refine JL_o (by apply aR; exact aJ hs) rfl rfl ?_; rintro _ _ ⟨b6, rfl, hb6, hs, hE⟩) | (apply aU; refine JL_u (by apply aP; exact aK hs rfl rfl rfl) rfl ?_; rintro _ _ ⟨hs, hF⟩))
    refine aM Tryz.func35 rfl (.agg' hs rfl rfl (.tmp rfl (.tmp rfl .nil))) (.inl ⟨he, rfl, hs.frm.ext⟩)
theorem sG (w : World) (a a2 : Option Addr) (n c n2 c2 : Nat) (N : List NM) (E : List Ent) (X0 id : Int) (h : Sl eD All w a n c N) (hE0 : Sl dEnt All w a2 n2 c2 E) (hn : n ≤ 900000) (hn2 : n2 ≤ 1048576) (hz : szN N) (hx0 : inK .i64 X0) (hid : okId id) :
    Ret Tryz.prog 36 #[.agg #[.slice a n c, .slice a2 n2 c2], .int .i64 X0, .int .u64 id] w (GRes w (goE N E X0 id false) (gon N X0 id false) (goL N X0 id false) (n + 1)) := by
  refine bI (l := [_, _, _]) Tryz.func36 rfl Tryz.ntmps36 (by simp) ?_
  have hs := St.init w
  by_cases he : goE N E X0 id false = 0
  · repeat' (first | ((apply aL 100; refine JL_o (by exact aA en100 rfl ((aA4 _ a a2 n c n2 c2 N E X0 id (h.st hs) (hE0.st hs) hn hn2 hz hx0 hid).mono (fun _ _ r => GRes.ok (mx := n + 1) r he))) rfl rfl ?_; rintro _ _ ⟨a', m', c', a2', m2, c2', rfl, hm', qs, es, rs', hq, hce, hnl, hf⟩; have hs := hs.fresh hf; (try simp only [zcc] at hs))) | (apply aH) | ((apply aC); exact zop; first | (exact rfl; exact rfl) | exact rfl) | (apply aQ) | (apply aB) | (apply aF (t := 3); refine JL_o (by apply bN; exact bC hs rfl) rfl rfl ?_; rintro _ _ ⟨b3, rfl, hb3, hs, hE⟩) | (apply aF (t := 6); refine JL_o (by apply aR; exact aJ hs) rfl rfl ?_; rintro _ _ ⟨b6, rfl, hb6, hs, hE⟩) | (apply aU; refine JL_u (by apply aP; exact aK hs rfl rfl rfl) rfl ?_; rintro _ _ ⟨hs, hF⟩))
    refine aM Tryz.func36 rfl (.agg' hs rfl rfl (.tmp rfl (.tmp rfl .nil))) (.inr ⟨he, a', m', c', a2', m2, c2', rfl, hm', qs, es, rs', hq, hce, hnl, hs.out (.cons_cons _ (.cons_cons _ (.cons_cons _ (.cons_cons _ (List.nil_sublist _)))))⟩)
  · repeat' (first | ((apply aL 100; refine JL_o (by exact aA en100 rfl ((aA4 _ a a2 n c n2 c2 N E X0 id (h.st hs) (hE0.st hs) hn hn2 hz hx0 hid).mono (fun _ _ r => GRes.bad (mx := n + 1) r he))) rfl rfl ?_; rintro _ _ ⟨rfl, hE⟩; have hs := hs.ext hE; (try simp only [zcc] at hs))) | (apply aH) | ((apply aC); exact zop; first | (exact rfl; exact rfl) | exact rfl) | (apply aQ) | (apply aB) | (apply aF (t := 3); refine JL_o (by apply bN; exact bC hs rfl) rfl rfl ?_; rintro _ _ ⟨b3, rfl, hb3, hs, hE⟩) | (apply aF (t := 6); refine JL_o (by apply aR; exact aJ hs) rfl rfl ?_; rintro _ _ ⟨b6, rfl, hb6, hs, hE⟩) | (apply aU; refine JL_u (by apply aP; exact aK hs rfl rfl rfl) rfl ?_; rintro _ _ ⟨hs, hF⟩))
    refine aM Tryz.func36 rfl (.agg' hs rfl rfl (.tmp rfl (.tmp rfl .nil))) (.inl ⟨he, rfl, hs.frm.ext⟩)
theorem gOf_r (w : World) (a a2 a3 : Option Addr) (n c n2 c2 n3 c3 : Nat) (N : List NM) (E : List Ent) (t : List Int) (h : Sl eD All w a n c N) (hE0 : Sl dEnt All w a2 n2 c2 E) (ht : Sl dId All w a3 n3 c3 t) (hn : n ≤ 900000) (hn2 : n2 ≤ 1048576) (hz : szN N) :
    Ret Tryz.prog 33 #[.agg #[.slice a n c, .slice a2 n2 c2], .slice a3 n3 c3] w (GRes w (ofE N E t) (ofn N t) (ofL N t) (n + 1)) := by
  refine bI (l := [_, _]) Tryz.func33 rfl Tryz.ntmps33 (by simp) ?_
  have hs := St.init w
  cases hc : dP N E with
  | false =>
    have heg := iQ hc
    have eE : ofE N E t = 220 := by unfold ofE; rw [hc]; rfl
    rw [eE]
    repeat' (first | ((apply aL 46; refine JL_o (by exact aA en46 rfl (dQ _ a a2 n c n2 c2 N E (h.st hs) (hE0.st hs) hn2 hz)) rfl rfl ?_; rintro _ _ ⟨rfl, hE⟩; rw [heg]; have hs := hs.ext hE; (try simp only [zcc] at hs))) | (apply aH) | ((apply aC); exact zop; first | (exact rfl; exact rfl) | exact rfl) | (apply aQ) | (apply aB) | (apply aF (t := 2); refine JL_o (by apply bN; exact bC hs rfl) rfl rfl ?_; rintro _ _ ⟨b2, rfl, hb2, hs, hE⟩) | (apply aF (t := 4); refine JL_o (by apply aR; exact aJ hs) rfl rfl ?_; rintro _ _ ⟨b4, rfl, hb4, hs, hE⟩) | (apply aU; refine JL_u (by apply aP; exact aK hs rfl rfl rfl) rfl ?_; rintro _ _ ⟨hs, hF⟩) | (apply aG; refine aS rfl ob ?_))
    refine aM Tryz.func33 rfl (.agg' hs rfl rfl (.tmp rfl (.tmp rfl .nil))) (.inl ⟨by decide, rfl, hs.frm.ext⟩)
  | true =>
  have heg := nG hc
  have eE : ofE N E t = ofC N t := by unfold ofE; rw [hc]; rfl
  rw [eE]
  by_cases he : ofC N t = 0
  · repeat' (first | ((apply aL 46; refine JL_o (by exact aA en46 rfl (dQ _ a a2 n c n2 c2 N E (h.st hs) (hE0.st hs) hn2 hz)) rfl rfl ?_; rintro _ _ ⟨rfl, hE⟩; rw [heg]; have hs := hs.ext hE; (try simp only [zcc] at hs))) | ((apply aL 99; refine JL_o (by exact aA en99 rfl (aA5 _ a a2 a3 n c n2 c2 n3 c3 N E t (h.st hs) (hE0.st hs) (ht.st hs) hn hn2 hz hc he)) rfl rfl ?_; rintro _ _ ⟨a', m', c', a2', m2, c2', rfl, hm', qs, es, rs', hq, hce, hnl, hf⟩; have hs := hs.fresh hf; (try simp only [zcc] at hs))) | (apply aH) | ((apply aC); exact zop; first | (exact rfl; exact rfl) | exact rfl) | (apply aQ) | (apply aB) | (apply aV) | (apply aF (t := 2); refine JL_o (by apply bN; exact bC hs rfl) rfl rfl ?_; rintro _ _ ⟨b2, rfl, hb2, hs, hE⟩) | (apply aF (t := 4); refine JL_o (by apply aR; exact aJ hs) rfl rfl ?_; rintro _ _ ⟨b4, rfl, hb4, hs, hE⟩) | (apply aU; refine JL_u (by apply aP; exact aK hs rfl rfl rfl) rfl ?_; rintro _ _ ⟨hs, hF⟩) | (apply aG; refine aZ rfl ob ?_))
    refine aM Tryz.func33 rfl (.agg' hs rfl rfl (.tmp rfl (.tmp rfl .nil))) (.inr ⟨he, a', m', c', a2', m2, c2', rfl, hm', qs, es, rs', hq, hce, hnl, hs.out (.cons_cons _ (.cons_cons _ (.cons_cons _ (.cons_cons _ (List.nil_sublist _)))))⟩)
  · repeat' (first | ((apply aL 46; refine JL_o (by exact aA en46 rfl (dQ _ a a2 n c n2 c2 N E (h.st hs) (hE0.st hs) hn2 hz)) rfl rfl ?_; rintro _ _ ⟨rfl, hE⟩; rw [heg]; have hs := hs.ext hE; (try simp only [zcc] at hs))) | ((apply aL 99; refine JL_o (by exact aA en99 rfl (vL _ a a2 a3 n c n2 c2 n3 c3 N E t (h.st hs) (hE0.st hs) (ht.st hs) hn hn2 hz hc he)) rfl rfl ?_; rintro _ _ ⟨rfl, hE⟩; have hs := hs.ext hE; (try simp only [zcc] at hs))) | (apply aH) | ((apply aC); exact zop; first | (exact rfl; exact rfl) | exact rfl) | (apply aQ) | (apply aB) | (apply aV) | (apply aF (t := 2); refine JL_o (by apply bN; exact bC hs rfl) rfl rfl ?_; rintro _ _ ⟨b2, rfl, hb2, hs, hE⟩) | (apply aF (t := 4); refine JL_o (by apply aR; exact aJ hs) rfl rfl ?_; rintro _ _ ⟨b4, rfl, hb4, hs, hE⟩) | (apply aU; refine JL_u (by apply aP; exact aK hs rfl rfl rfl) rfl ?_; rintro _ _ ⟨hs, hF⟩) | (apply aG; refine aZ rfl ob ?_))
    refine aM Tryz.func33 rfl (.agg' hs rfl rfl (.tmp rfl (.tmp rfl .nil))) (.inl ⟨he, rfl, hs.frm.ext⟩)
end Go.Eng
end
