/- The texts G5, G6, G7, L35, L36, G8, G9, G10, G11, G12, E31, G13, G14, G15, G16, G17, G18, G19, joined: what of them serves. -/
import Derived.Test.YtcoldgkhlkjjmaaGreatB3
section
namespace Go.Eng
open Go.Proofs
set_option linter.unusedSimpArgs false
set_option linter.unusedVariables false
abbrev s0 : ST := (0, 0)
def dT (N : List NM) (x : Int) : NM := N.getD (x - 1).toNat n0
def xP (x : NM) (plus : Bool) : List ST := if plus then x.2.2.2 else x.2.2.1
def xW (plus : Bool) (l : List Int) (id : Int) : Int := if plus then jC l id else outC l id
def xV (plus : Bool) (l : List Int) (id : Int) : List Int := if plus then iB l id else outL l id
def qA (N : List NM) (n : Int) (row : List ST) (plus : Bool) (i : Nat) : Bool :=
  (decide (i = 0) || decide ((row.getD (i - 1) s0).1 < (row.getD i s0).1)) && (isM N (row.getD i s0).2 && ((hasT (dT N n).2.1 (row.getD i s0).1 != plus) && (decide (xW plus (dT N n).2.1 (row.getD i s0).1 = 0) &&
    (decide ((dT N (row.getD i s0).2).2.1 = xV plus (dT N n).2.1 (row.getD i s0).1) && decide (((row.getD i s0).1, n) ∈ xP (dT N (row.getD i s0).2) plus)))))
def iE (N : List NM) (n : Int) (row : List ST) (plus : Bool) : Bool := (List.range row.length).all (qA N n row plus)
theorem eS {N : List NM} {n : Int} {row : List ST} {plus : Bool} {k : Nat} (hk : k < row.length) (h : qA N n row plus k = false) : iE N n row plus = false := by
  unfold iE
  rw [List.all_eq_false]
  exact ⟨k, List.mem_range.2 hk, by rw [h]; decide⟩
theorem uJ {N : List NM} {n : Int} {row : List ST} {plus : Bool} (h : ∀ k, k < row.length → qA N n row plus k = true) : iE N n row plus = true := by
  unfold iE
  rw [List.all_eq_true]
  exact fun k hk => h k (List.mem_range.1 hk)
theorem dM {N : List NM} {k : Nat} {x : NM} (h : N[k]? = some x) : dT N ((k : Int) + 1) = x := by
  unfold dT
  rw [show ((k : Int) + 1 - 1).toNat = k by omega, dR h]
attribute [local irreducible] Hold J JL JD JX JXat OpR OpG Ret RetV Is Blk Row
set_option maxRecDepth 100000
set_option maxHeartbeats 2000000
theorem mY (w : World) (a a2 a3 : Option Addr) (n c n2 c2 n3 c3 : Nat) (N : List NM) (k0 : Nat) (row : List ST) (plus : Bool) (h : Sl jA All w a n c N) (hk0 : k0 < n) (hrow : Sl dStp All w a3 n3 c3 row) :
    Ret Tryz.prog 120 #[.agg #[.slice a n c, .slice a2 n2 c2], .int .i64 ((k0 : Int) + 1), .slice a3 n3 c3, .bool plus] w fun v w' => v = .bool (iE N ((k0 : Int) + 1) row plus) ∧ Ext w w' := by
  refine cJ (l := [_, _, _, _]) Tryz.func120 rfl Tryz.ntmps120 (by simp) ?_
  have hs := St.init w
  have hl := h.len
  have hl3 := hrow.len
  have hNo := sU h
  have hro := vL hrow
  obtain ⟨rs, hr, hm⟩ := Sl.raw (D := mX) h
  have hmx : n ≤ 9223372036854775807 := by have h3 := h.le; have h4 := h.cap; unfold maxLen at h4; omega
  have hmx3 : n3 ≤ 9223372036854775807 := by have h3 := hrow.le; have h4 := hrow.cap; unfold maxLen at h4; omega
  obtain ⟨p, o, rfl⟩ := hr.sl.addr (by omega)
  have hy0 : N[k0]? = some (N[k0]'(by omega)) := List.getElem?_eq_getElem (by omega)
  obtain ⟨y0, hyd0⟩ : ∃ y, y = N[k0]'(by omega) := ⟨_, rfl⟩
  rw [← hyd0] at hy0
  obtain ⟨r0, hr0, _, e0, _⟩ := hm.get hy0
  have mT : Sl dId All w r0.2.1.1 r0.2.1.2.1 r0.2.1.2.2 y0.2.1 := e0
  have hr0' : rs[((k0 : Int) + 1 - 1).toNat]? = some r0 := by rw [show ((k0 : Int) + 1 - 1).toNat = k0 by omega]; exact hr0
  have hnode := dM hy0
  obtain ⟨T, hT⟩ : ∃ T, T = y0.2.1 := ⟨_, rfl⟩
  rw [← hT] at mT
  repeat' (first | (apply aU) | ((apply aK); (first | (apply aX; first | exact aW hs rfl rfl aA | exact cL (i := ((k0 : Int) + 1 - 1).toNat) (j := 1) (hr.st hs) hr0' rfl rfl rfl aA) | (apply aQ; exact aJ rfl aA) | (apply aF; exact aC rfl aA) | (apply aS; first | exact aN rfl rfl aA | exact bJ rfl rfl aA) | (apply eW; exact dS rfl rfl (by omega) aA) | (apply bO; exact bZ rfl aA) | (apply aP; exact aO rfl rfl (by omega) (by omega) aA)); first | (exact rfl; exact rfl) | exact rfl) | (apply bC) | (apply aG) | (apply bD) | (apply sN) | (apply sL) | (apply aH (t := 4); refine JL_o (by apply cA; exact bE hs rfl) rfl rfl ?_; rintro _ _ ⟨b4, rfl, hb4, hs, hE⟩))
  refine dK (α := Nat) [(1, _), (2, _), (3, _), (4, _), (9, _), (24, _), (25, _)] (fun k => [(10, .bool true), (26, .int .i64 k)]) (fun k w' => St w NoF w' [Blk b4 (.cells #[.slice (some ⟨p, o, none⟩) n c, .slice a2 n2 c2] 57 (0, 0))] ∧ k ≤ n3 ∧ ∀ j, j < k → qA N ((k0 : Int) + 1) row plus j = true) (fun k => n3 - k) 0 ⟨hs, Nat.zero_le _, fun j hj => absurd hj (Nat.not_lt_zero _)⟩ zss ?_
  rintro k w2 ⟨hs1, hk, hall⟩ ih
  have hs : St w NoF w2 [_] := hs1
  by_cases hlt : k < n3
  · obtain ⟨p3, o3, rfl⟩ := hrow.sl.addr (by omega)
    have hs : St w NoF w2 [_] := hs1
    have hv : row[k]? = some (row[k]'(by omega)) := List.getElem?_eq_getElem (by omega)
    obtain ⟨s, hsd⟩ : ∃ s, s = row[k]'(by omega) := ⟨_, rfl⟩
    rw [← hsd] at hv
    have hso := hro s (List.mem_of_getElem? hv)
    obtain ⟨q, hq⟩ : ∃ q, q = row.getD (k - 1) s0 := ⟨_, rfl⟩
    have hprev : (k : Int) > 0 → row[((k : Int) - 1).toNat]? = some q := fun hk0 => by
      rw [show ((k : Int) - 1).toNat = k - 1 by omega, hq, dR (List.getElem?_eq_getElem (by omega : k - 1 < row.length))]
      exact List.getElem?_eq_getElem _
    have hqo : (k : Int) > 0 → okT q := fun hk0 => hro q (List.mem_of_getElem? (hprev hk0))
    obtain ⟨cc, hcc⟩ : ∃ cc, cc = cmpI q.1 s.1 := ⟨_, rfl⟩
    have hccl : cc < 0 ↔ q.1 < s.1 := by rw [hcc]; unfold cmpI; split <;> (try split) <;> omega
    have hst : qA N ((k0 : Int) + 1) row plus k = ((decide (k = 0) || decide (q.1 < s.1)) && (isM N s.2 && ((hasT T s.1 != plus) && (decide (xW plus T s.1 = 0) && (decide ((dT N s.2).2.1 = xV plus T s.1) && decide ((s.1, (k0 : Int) + 1) ∈ xP (dT N s.2) plus)))))) := by
      unfold qA
      rw [hnode, dR hv, ← hq, hT]
    by_cases hadj : (k : Int) > 0 → cc < 0
    rotate_left
    · have hk0 : (k : Int) > 0 := Decidable.by_contra fun h => hadj (fun h2 => absurd h2 h)
      have hccn : ¬ cc < 0 := fun h => hadj (fun _ => h)
      have hf : iE N ((k0 : Int) + 1) row plus = false := eS (k := k) (by omega) (by
        rw [hst, decide_eq_false (by omega : ¬ k = 0), decide_eq_false (fun h => hccn (hccl.2 h))]; rfl)
      rw [hf]
      repeat' (first | ((apply ax_c; apply cR 172; exact rfl; exact rfl; exact gb; (intro W X hN hs; exact aB mI rfl (eD _ q s (hqo hk0) hso)); (rintro _ _ _ _ ⟨rfl, hE⟩; first | exact hE | exact Fresh.ext hf); rintro W X _ _ hN hs ⟨rfl, hE⟩; rw [← hcc]; have hs := hs.ext hE; (try simp only [zcc] at hs); refine JX.at hs ?_)) | (apply aU) | ((first | (apply aK) | (apply JX_f; exact rfl; intro W X hs) | (apply fA; exact rfl; exact rfl; exact gb; intro W X hs)); (first | (apply aX; first | exact bF (i := ((k : Int) - 1).toNat) (hrow.st hs) (hprev hk0) rfl rfl aA | exact bF (i := k) (hrow.st hs) hv rfl rfl aA | exact aW hs rfl rfl aA | exact aI hs rfl aA) | (apply aQ; exact aJ rfl aA) | (apply aF; exact aC rfl aA) | (apply eW; exact dS rfl rfl (by omega) aA) | (apply aL; exact aM rfl rfl rfl aA) | (apply cH; exact bR rfl gb rfl aA) | (apply aP; exact aO rfl rfl (by omega) (by omega) aA)); first | (exact rfl; exact rfl) | exact rfl) | (apply bC) | (apply aG) | (apply bD) | (apply cK; refine cY rfl ?_) | (apply bK) | (apply aH (t := 12); refine JL_o (by apply bA; exact aR hs) rfl rfl ?_; rintro _ _ ⟨b12, rfl, hb12, hs, hE⟩) | (apply bI; refine JL_u (by apply bB; exact aY hs rfl rfl rfl) rfl ?_; rintro _ _ ⟨hs, hF⟩) | (apply aT; first | refine bH rfl ob ?_ | refine bQ rfl gb ?_) | (apply cZ; (refine dD (id := 6) [0, 1, 3, 7, 7, 23, 63, 127, 7, 511, 1023, 2047, 4095, 8191, 8191, 24575, 65535, 131071, 262143, 524287, 1048575, 1048575, 3145727, 8388607, 1048575, 33554431, 67108863] [(0, 0), (1, 0), (2, 0), (3, 0), (4, 0), (5, 0), (6, 0), (7, 0), (8, 0), (9, 1), (10, 0), (11, 0), (12, 0), (13, 0), (14, 0), (15, 0), (16, 1), (17, 0), (18, 0), (19, 0), (20, 0), (21, 0), (22, 0), (24, 0), (23, 1), (25, 0), (26, 0)] [] hs eQ (by kernel_rfl) (by kernel_rfl) (by kernel_rfl) (by kernel_rfl) (by kernel_rfl) ?_)) | (refine cX (fun W hs => ?_)) | (refine eB rfl rfl gb rfl ?_) | (refine eC rfl rfl gb rfl ?_) | (apply dL))
      refine aZ Tryz.func120 rfl (.tmp rfl .nil) ⟨rfl, hs.frm.ext⟩
    have hadB : (decide (k = 0) || decide (q.1 < s.1)) = true := by
      by_cases e : k = 0
      · rw [decide_eq_true e]; rfl
      · rw [decide_eq_true (hccl.1 (hadj (by omega)))]; exact Bool.or_true _
    rw [hadB, Bool.true_and] at hst
    obtain ⟨ib, his⟩ : ∃ ib, isM N s.2 = ib := ⟨_, rfl⟩
    obtain ⟨hb, hhas⟩ : ∃ hb, hasT T s.1 = hb := ⟨_, rfl⟩
    rw [his, hhas] at hst
    cases plus with
    | true =>
      cases ib with
      | false =>
        rw [eS (k := k) (by omega) (by rw [hst]; rfl)]
        repeat' (first | ((apply ax_c; apply cR 172; exact rfl; exact rfl; exact gb; (intro W X hN hs; exact aB mI rfl (eD _ q s (hqo (by assumption)) hso)); (rintro _ _ _ _ ⟨rfl, hE⟩; first | exact hE | exact Fresh.ext hf); rintro W X _ _ hN hs ⟨rfl, hE⟩; rw [← hcc]; have hs := hs.ext hE; (try simp only [zcc] at hs); refine JX.at hs ?_)) | ((apply ax_c; apply cR 105; exact rfl; exact rfl; exact gb; (intro W X hN hs; exact aB fI rfl (is_r _ (some ⟨p, o, none⟩) a2 n c n2 c2 N s.2 (h.st hs) hso.2)); (rintro _ _ _ _ ⟨rfl, hE⟩; first | exact hE | exact Fresh.ext hf); rintro W X _ _ hN hs ⟨rfl, hE⟩; rw [his]; have hs := hs.ext hE; (try simp only [zcc] at hs); refine JX.at hs ?_)) | (apply aU) | ((first | (apply aK) | (apply JX_f; exact rfl; intro W X hs) | (apply fA; exact rfl; exact rfl; exact gb; intro W X hs)); (first | (apply aX; first | exact bF (i := ((k : Int) - 1).toNat) (hrow.st hs) (hprev (by assumption)) rfl rfl aA | exact bF (i := k) (hrow.st hs) hv rfl rfl aA | exact aW hs rfl rfl aA | exact aI hs rfl aA) | (apply aQ; exact aJ rfl aA) | (apply aF; exact aC rfl aA) | (apply aS; exact aN rfl rfl aA) | (apply eW; exact dS rfl rfl (by omega) aA) | (apply aL; exact aM rfl rfl rfl aA) | (apply cF; exact cG rfl aA) | (apply cH; first | exact bR rfl gb rfl aA | exact bN rfl gb rfl aA) | (apply aP; exact aO rfl rfl (by omega) (by omega) aA)); first | (exact rfl; exact rfl) | exact rfl) | (apply bC) | (apply aG) | (apply bD) | (apply cK; refine cY rfl ?_) | (apply bK) | (apply aH (t := 12); refine JL_o (by apply bA; exact aR hs) rfl rfl ?_; rintro _ _ ⟨b12, rfl, hb12, hs, hE⟩) | (apply bI; refine JL_u (by apply bB; exact aY hs rfl rfl rfl) rfl ?_; rintro _ _ ⟨hs, hF⟩) | (apply aT; first | refine bH rfl ob ?_ | refine bQ rfl gb ?_) | (apply cZ; (refine dD (id := 6) [0, 1, 3, 7, 7, 23, 63, 127, 7, 511, 1023, 2047, 4095, 8191, 8191, 24575, 65535, 131071, 262143, 524287, 1048575, 1048575, 3145727, 8388607, 1048575, 33554431, 67108863] [(0, 0), (1, 0), (2, 0), (3, 0), (4, 0), (5, 0), (6, 0), (7, 0), (8, 0), (9, 1), (10, 0), (11, 0), (12, 0), (13, 0), (14, 0), (15, 0), (16, 1), (17, 0), (18, 0), (19, 0), (20, 0), (21, 0), (22, 0), (24, 0), (23, 1), (25, 0), (26, 0)] [] hs eQ (by kernel_rfl) (by kernel_rfl) (by kernel_rfl) (by kernel_rfl) (by kernel_rfl) ?_)) | (refine cX (fun W hs => ?_)) | (refine eB rfl rfl gb rfl ?_) | (refine eC rfl rfl gb rfl ?_) | (refine dJ rfl rfl (fun hq => ?_) (fun hq => ?_); (fail_if_success (exact absurd (by clear hq; first | assumption | omega) (not_not_intro hq))); rotate_left; (fail_if_success (exact absurd (by clear hq; first | assumption | omega) hq)); rotate_left) | (apply dL))
        all_goals refine aZ Tryz.func120 rfl (.tmp rfl .nil) ⟨rfl, hs.frm.ext⟩
      | true =>
        obtain ⟨j, yj, hj, hyj, hyu⟩ := isM_true.1 his
        have hjl := (List.getElem?_eq_some_iff.1 hyj).1
        obtain ⟨rj, hrj0, f1, f2, f3, f4⟩ := hm.get hyj
        have mj1 : Sl dId All w rj.2.1.1 rj.2.1.2.1 rj.2.1.2.2 yj.2.1 := f2
        have mj2 : Sl dStp All w rj.2.2.1.1 rj.2.2.1.2.1 rj.2.2.1.2.2 yj.2.2.1 := f3
        have mj3 : Sl dStp All w rj.2.2.2.1 rj.2.2.2.2.1 rj.2.2.2.2.2 yj.2.2.2 := f4
        have hrj : rs[(s.2 - 1).toNat]? = some rj := by rw [hj, show ((j : Int) + 1 - 1).toNat = j by omega]; exact hrj0
        have hsj : 1 ≤ s.2 ∧ s.2 ≤ n := by omega
        have hnj : dT N s.2 = yj := by rw [hj]; exact dM hyj
        rw [hnj] at hst
        cases hb with
        | true =>
          rw [eS (k := k) (by omega) (by rw [hst]; rfl)]
          repeat' (first | ((apply ax_c; apply cR 172; exact rfl; exact rfl; exact gb; (intro W X hN hs; exact aB mI rfl (eD _ q s (hqo (by assumption)) hso)); (rintro _ _ _ _ ⟨rfl, hE⟩; first | exact hE | exact Fresh.ext hf); rintro W X _ _ hN hs ⟨rfl, hE⟩; rw [← hcc]; have hs := hs.ext hE; (try simp only [zcc] at hs); refine JX.at hs ?_)) | ((apply ax_c; apply cR 105; exact rfl; exact rfl; exact gb; (intro W X hN hs; exact aB fI rfl (is_r _ (some ⟨p, o, none⟩) a2 n c n2 c2 N s.2 (h.st hs) hso.2)); (rintro _ _ _ _ ⟨rfl, hE⟩; first | exact hE | exact Fresh.ext hf); rintro W X _ _ hN hs ⟨rfl, hE⟩; rw [his]; have hs := hs.ext hE; (try simp only [zcc] at hs); refine JX.at hs ?_)) | ((apply ax_c; apply cR 47; exact rfl; exact rfl; exact gb; (intro W X hN hs; exact aB en47 rfl (lG _ r0.2.1.1 r0.2.1.2.1 r0.2.1.2.2 T s.1 (mT.st hs))); (rintro _ _ _ _ ⟨rfl, hE⟩; first | exact hE | exact Fresh.ext hf); rintro W X _ _ hN hs ⟨rfl, hE⟩; rw [hhas]; have hs := hs.ext hE; (try simp only [zcc] at hs); refine JX.at hs ?_)) | (apply aU) | ((first | (apply aK) | (apply JX_f; exact rfl; intro W X hs) | (apply fA; exact rfl; exact rfl; exact gb; intro W X hs)); (first | (apply aX; first | exact bF (i := ((k : Int) - 1).toNat) (hrow.st hs) (hprev (by assumption)) rfl rfl aA | exact bF (i := k) (hrow.st hs) hv rfl rfl aA | exact aW hs rfl rfl aA | exact aI hs rfl aA) | (apply aQ; exact aJ rfl aA) | (apply aF; exact aC rfl aA) | (apply aS; exact aN rfl rfl aA) | (apply eW; exact dS rfl rfl (by omega) aA) | (apply aL; first | exact aM rfl rfl rfl aA | exact eA rfl rfl aA) | (apply cF; exact cG rfl aA) | (apply cH; first | exact bR rfl gb rfl aA | exact bN rfl gb rfl aA) | (apply aP; exact aO rfl rfl (by omega) (by omega) aA)); first | (exact rfl; exact rfl) | exact rfl) | (apply bC) | (apply aG) | (apply bD) | (apply cK; refine cY rfl ?_) | (apply bK) | (apply aH (t := 12); refine JL_o (by apply bA; exact aR hs) rfl rfl ?_; rintro _ _ ⟨b12, rfl, hb12, hs, hE⟩) | (apply bI; refine JL_u (by apply bB; exact aY hs rfl rfl rfl) rfl ?_; rintro _ _ ⟨hs, hF⟩) | (apply aT; first | refine bH rfl ob ?_ | refine bQ rfl gb ?_) | (apply cZ; (refine dD (id := 6) [0, 1, 3, 7, 7, 23, 63, 127, 7, 511, 1023, 2047, 4095, 8191, 8191, 24575, 65535, 131071, 262143, 524287, 1048575, 1048575, 3145727, 8388607, 1048575, 33554431, 67108863] [(0, 0), (1, 0), (2, 0), (3, 0), (4, 0), (5, 0), (6, 0), (7, 0), (8, 0), (9, 1), (10, 0), (11, 0), (12, 0), (13, 0), (14, 0), (15, 0), (16, 1), (17, 0), (18, 0), (19, 0), (20, 0), (21, 0), (22, 0), (24, 0), (23, 1), (25, 0), (26, 0)] [] hs eQ (by kernel_rfl) (by kernel_rfl) (by kernel_rfl) (by kernel_rfl) (by kernel_rfl) ?_)) | (refine cX (fun W hs => ?_)) | (refine eB rfl rfl gb rfl ?_) | (refine eC rfl rfl gb rfl ?_) | (refine dJ rfl rfl (fun hq => ?_) (fun hq => ?_); (fail_if_success (exact absurd (by clear hq; first | assumption | omega) (not_not_intro hq))); rotate_left; (fail_if_success (exact absurd (by clear hq; first | assumption | omega) hq)); rotate_left) | (apply dL))
          all_goals refine aZ Tryz.func120 rfl (.tmp rfl .nil) ⟨rfl, hs.frm.ext⟩
        | false =>
          obtain ⟨z, hz⟩ : ∃ z, z = jC T s.1 := ⟨_, rfl⟩
          obtain ⟨ZL, hZL⟩ : ∃ z, z = iB T s.1 := ⟨_, rfl⟩
          have hzt : xW true T s.1 = z := by rw [hz]; rfl
          have hzl : xV true T s.1 = ZL := by rw [hZL]; rfl
          have hbk : xP yj true = yj.2.2.2 := rfl
          have hZo : ∀ x ∈ ZL, okId x := by rw [hZL]; unfold iB; split; exact (fun x hx => (insT_mem.1 hx).elim (fun e => e ▸ hso.1) (fun e => nY mT x e)); exact (fun x hx => by cases hx)
          rw [hzt, hzl, hbk] at hst
          by_cases hz0 : z = 0
          rotate_left
          · rw [eS (k := k) (by omega) (by rw [hst, decide_eq_false hz0]; rfl)]
            repeat' (first | ((apply ax_c; apply cR 172; exact rfl; exact rfl; exact gb; (intro W X hN hs; exact aB mI rfl (eD _ q s (hqo (by assumption)) hso)); (rintro _ _ _ _ ⟨rfl, hE⟩; first | exact hE | exact Fresh.ext hf); rintro W X _ _ hN hs ⟨rfl, hE⟩; rw [← hcc]; have hs := hs.ext hE; (try simp only [zcc] at hs); refine JX.at hs ?_)) | ((apply ax_c; apply cR 105; exact rfl; exact rfl; exact gb; (intro W X hN hs; exact aB fI rfl (is_r _ (some ⟨p, o, none⟩) a2 n c n2 c2 N s.2 (h.st hs) hso.2)); (rintro _ _ _ _ ⟨rfl, hE⟩; first | exact hE | exact Fresh.ext hf); rintro W X _ _ hN hs ⟨rfl, hE⟩; rw [his]; have hs := hs.ext hE; (try simp only [zcc] at hs); refine JX.at hs ?_)) | ((apply ax_c; apply cR 47; exact rfl; exact rfl; exact gb; (intro W X hN hs; exact aB en47 rfl (lG _ r0.2.1.1 r0.2.1.2.1 r0.2.1.2.2 T s.1 (mT.st hs))); (rintro _ _ _ _ ⟨rfl, hE⟩; first | exact hE | exact Fresh.ext hf); rintro W X _ _ hN hs ⟨rfl, hE⟩; rw [hhas]; have hs := hs.ext hE; (try simp only [zcc] at hs); refine JX.at hs ?_)) | ((apply aV 45; refine JL_o (by exact aB en45 rfl (iK _ r0.2.1.1 r0.2.1.2.1 r0.2.1.2.2 T s.1 (mT.st hs) hso.1)) rfl rfl ?_; rintro _ _ ⟨aw, rfl, hf⟩; rw [← hZL] at hf; rw [← hz, ← hZL]; have hs := hs.fresh hf; (try simp only [zcc] at hs))) | (apply aU) | ((first | (apply aK) | (apply JX_f; exact rfl; intro W X hs) | (apply fA; exact rfl; exact rfl; exact gb; intro W X hs)); (first | (apply aX; first | exact bF (i := ((k : Int) - 1).toNat) (hrow.st hs) (hprev (by assumption)) rfl rfl aA | exact bF (i := k) (hrow.st hs) hv rfl rfl aA | exact bF (i := (s.2 - 1).toNat) (hr.st hs) hrj rfl rfl aA | exact aW hs rfl rfl aA | exact aI hs rfl aA) | (apply aQ; exact aJ rfl aA) | (apply aF; exact aC rfl aA) | (apply aS; exact aN rfl rfl aA) | (apply eW; exact dS rfl rfl (by omega) aA) | (apply aL; first | exact aM rfl rfl rfl aA | exact eA rfl rfl aA) | (apply cF; exact cG rfl aA) | (apply cH; first | exact bR rfl gb rfl aA | exact bN rfl gb rfl aA) | (apply cD; exact bU rfl rfl aA) | (apply aP; exact aO rfl rfl (by omega) (by omega) aA)); first | (exact rfl; exact rfl) | exact rfl) | (apply bC) | (apply aG) | (apply bD) | (apply cK; refine cY rfl ?_) | (apply bK) | (apply aH (t := 12); refine JL_o (by apply bA; exact aR hs) rfl rfl ?_; rintro _ _ ⟨b12, rfl, hb12, hs, hE⟩) | (apply aH (t := 13); refine JL_o (by apply bA; exact aR hs) rfl rfl ?_; rintro _ _ ⟨b13, rfl, hb13, hs, hE⟩) | (apply bI; refine JL_u (by apply bB; exact aY hs rfl rfl rfl) rfl ?_; rintro _ _ ⟨hs, hF⟩) | (apply cM; (refine fB rfl gb rfl ?_)) | (apply aT; first | refine bH rfl ob ?_ | refine bQ rfl gb ?_ | refine bM rfl gb ?_) | (apply cZ; (refine dD (id := 6) [0, 1, 3, 7, 7, 23, 63, 127, 7, 511, 1023, 2047, 4095, 8191, 8191, 24575, 65535, 131071, 262143, 524287, 1048575, 1048575, 3145727, 8388607, 1048575, 33554431, 67108863] [(0, 0), (1, 0), (2, 0), (3, 0), (4, 0), (5, 0), (6, 0), (7, 0), (8, 0), (9, 1), (10, 0), (11, 0), (12, 0), (13, 0), (14, 0), (15, 0), (16, 1), (17, 0), (18, 0), (19, 0), (20, 0), (21, 0), (22, 0), (24, 0), (23, 1), (25, 0), (26, 0)] [] hs eQ (by kernel_rfl) (by kernel_rfl) (by kernel_rfl) (by kernel_rfl) (by kernel_rfl) ?_)) | (refine cX (fun W hs => ?_)) | (refine eB rfl rfl gb rfl ?_) | (refine eC rfl rfl gb rfl ?_) | (refine dJ rfl rfl (fun hq => ?_) (fun hq => ?_); (fail_if_success (exact absurd (by clear hq; first | assumption | omega) (not_not_intro hq))); rotate_left; (fail_if_success (exact absurd (by clear hq; first | assumption | omega) hq)); rotate_left) | (apply dL))
            all_goals refine aZ Tryz.func120 rfl (.tmp rfl .nil) ⟨rfl, hs.frm.ext⟩
          rw [decide_eq_true hz0] at hst
          have hz1 : ¬ z ≠ 0 := fun e => e hz0
          by_cases hty : yj.2.1 = ZL
          rotate_left
          · have hte : decide (yj.2.1 = ZL) = false := decide_eq_false hty
            rw [eS (k := k) (by omega) (by rw [hst, hte]; rfl)]
            repeat' (first | ((apply ax_c; apply cR 172; exact rfl; exact rfl; exact gb; (intro W X hN hs; exact aB mI rfl (eD _ q s (hqo (by assumption)) hso)); (rintro _ _ _ _ ⟨rfl, hE⟩; first | exact hE | exact Fresh.ext hf); rintro W X _ _ hN hs ⟨rfl, hE⟩; rw [← hcc]; have hs := hs.ext hE; (try simp only [zcc] at hs); refine JX.at hs ?_)) | ((apply ax_c; apply cR 105; exact rfl; exact rfl; exact gb; (intro W X hN hs; exact aB fI rfl (is_r _ (some ⟨p, o, none⟩) a2 n c n2 c2 N s.2 (h.st hs) hso.2)); (rintro _ _ _ _ ⟨rfl, hE⟩; first | exact hE | exact Fresh.ext hf); rintro W X _ _ hN hs ⟨rfl, hE⟩; rw [his]; have hs := hs.ext hE; (try simp only [zcc] at hs); refine JX.at hs ?_)) | ((apply ax_c; apply cR 47; exact rfl; exact rfl; exact gb; (intro W X hN hs; exact aB en47 rfl (lG _ r0.2.1.1 r0.2.1.2.1 r0.2.1.2.2 T s.1 (mT.st hs))); (rintro _ _ _ _ ⟨rfl, hE⟩; first | exact hE | exact Fresh.ext hf); rintro W X _ _ hN hs ⟨rfl, hE⟩; rw [hhas]; have hs := hs.ext hE; (try simp only [zcc] at hs); refine JX.at hs ?_)) | ((apply aV 45; refine JL_o (by exact aB en45 rfl (iK _ r0.2.1.1 r0.2.1.2.1 r0.2.1.2.2 T s.1 (mT.st hs) hso.1)) rfl rfl ?_; rintro _ _ ⟨aw, rfl, hf⟩; rw [← hZL] at hf; rw [← hz, ← hZL]; have hs := hs.fresh hf; (try simp only [zcc] at hs))) | ((apply bV 43; refine bX rfl gb (by exact aB en43 rfl (cV _ rj.2.1.1 aw rj.2.1.2.1 rj.2.1.2.2 ZL.length ZL.length yj.2.1 ZL (mj1.st hs) (slU hs zmm hZo))) rfl rfl ?_; rintro _ _ ⟨rfl, hE⟩; rw [hte]; have hs := hs.ext hE; (try simp only [zcc] at hs))) | (apply aU) | ((first | (apply aK) | (apply bS; exact rfl; exact gb) | (apply JX_f; exact rfl; intro W X hs) | (apply fA; exact rfl; exact rfl; exact gb; intro W X hs)); (first | (apply aX; first | exact bF (i := ((k : Int) - 1).toNat) (hrow.st hs) (hprev (by assumption)) rfl rfl aA | exact bF (i := k) (hrow.st hs) hv rfl rfl aA | exact bF (i := (s.2 - 1).toNat) (hr.st hs) hrj rfl rfl aA | exact aW hs rfl rfl aA | exact aI hs rfl aA) | (apply aQ; exact aJ rfl aA) | (apply aF; exact aC rfl aA) | (apply aS; exact aN rfl rfl aA) | (apply eW; exact dS rfl rfl (by omega) aA) | (apply aL; first | exact aM rfl rfl rfl aA | exact eA rfl rfl aA) | (apply cF; exact cG rfl aA) | (apply cH; first | exact bR rfl gb rfl aA | exact bN rfl gb rfl aA) | (apply cD; exact bU rfl rfl aA) | (apply aP; exact aO rfl rfl (by omega) (by omega) aA)); first | (exact rfl; exact rfl) | exact rfl) | (apply bC) | (apply aG) | (apply bD) | (apply cK; refine cY rfl ?_) | (apply bK) | (apply aH (t := 12); refine JL_o (by apply bA; exact aR hs) rfl rfl ?_; rintro _ _ ⟨b12, rfl, hb12, hs, hE⟩) | (apply aH (t := 13); refine JL_o (by apply bA; exact aR hs) rfl rfl ?_; rintro _ _ ⟨b13, rfl, hb13, hs, hE⟩) | (apply bI; refine JL_u (by apply bB; exact aY hs rfl rfl rfl) rfl ?_; rintro _ _ ⟨hs, hF⟩) | (apply cM; (refine fB rfl gb rfl ?_)) | (apply aT; first | refine bH rfl ob ?_ | refine bQ rfl gb ?_ | refine bM rfl gb ?_) | (apply cZ; (refine dD (id := 6) [0, 1, 3, 7, 7, 23, 63, 127, 7, 511, 1023, 2047, 4095, 8191, 8191, 24575, 65535, 131071, 262143, 524287, 1048575, 1048575, 3145727, 8388607, 1048575, 33554431, 67108863] [(0, 0), (1, 0), (2, 0), (3, 0), (4, 0), (5, 0), (6, 0), (7, 0), (8, 0), (9, 1), (10, 0), (11, 0), (12, 0), (13, 0), (14, 0), (15, 0), (16, 1), (17, 0), (18, 0), (19, 0), (20, 0), (21, 0), (22, 0), (24, 0), (23, 1), (25, 0), (26, 0)] [] hs eQ (by kernel_rfl) (by kernel_rfl) (by kernel_rfl) (by kernel_rfl) (by kernel_rfl) ?_)) | (refine cX (fun W hs => ?_)) | (refine eB rfl rfl gb rfl ?_) | (refine eC rfl rfl gb rfl ?_) | (refine dJ rfl rfl (fun hq => ?_) (fun hq => ?_); (fail_if_success (exact absurd (by clear hq; first | assumption | omega) (not_not_intro hq))); rotate_left; (fail_if_success (exact absurd (by clear hq; first | assumption | omega) hq)); rotate_left) | (apply dL))
            all_goals refine aZ Tryz.func120 rfl (.tmp rfl .nil) ⟨rfl, hs.frm.ext⟩
          have hte : decide (yj.2.1 = ZL) = true := decide_eq_true hty
          rw [hte] at hst
          by_cases hin : (s.1, (k0 : Int) + 1) ∈ yj.2.2.2
          rotate_left
          · have hke : decide ((s.1, (k0 : Int) + 1) ∈ yj.2.2.2) = false := decide_eq_false hin
            rw [eS (k := k) (by omega) (by rw [hst, hke]; rfl)]
            repeat' (first | ((apply ax_c; apply cR 172; exact rfl; exact rfl; exact gb; (intro W X hN hs; exact aB mI rfl (eD _ q s (hqo (by assumption)) hso)); (rintro _ _ _ _ ⟨rfl, hE⟩; first | exact hE | exact Fresh.ext hf); rintro W X _ _ hN hs ⟨rfl, hE⟩; rw [← hcc]; have hs := hs.ext hE; (try simp only [zcc] at hs); refine JX.at hs ?_)) | ((apply ax_c; apply cR 105; exact rfl; exact rfl; exact gb; (intro W X hN hs; exact aB fI rfl (is_r _ (some ⟨p, o, none⟩) a2 n c n2 c2 N s.2 (h.st hs) hso.2)); (rintro _ _ _ _ ⟨rfl, hE⟩; first | exact hE | exact Fresh.ext hf); rintro W X _ _ hN hs ⟨rfl, hE⟩; rw [his]; have hs := hs.ext hE; (try simp only [zcc] at hs); refine JX.at hs ?_)) | ((apply ax_c; apply cR 47; exact rfl; exact rfl; exact gb; (intro W X hN hs; exact aB en47 rfl (lG _ r0.2.1.1 r0.2.1.2.1 r0.2.1.2.2 T s.1 (mT.st hs))); (rintro _ _ _ _ ⟨rfl, hE⟩; first | exact hE | exact Fresh.ext hf); rintro W X _ _ hN hs ⟨rfl, hE⟩; rw [hhas]; have hs := hs.ext hE; (try simp only [zcc] at hs); refine JX.at hs ?_)) | ((apply aV 45; refine JL_o (by exact aB en45 rfl (iK _ r0.2.1.1 r0.2.1.2.1 r0.2.1.2.2 T s.1 (mT.st hs) hso.1)) rfl rfl ?_; rintro _ _ ⟨aw, rfl, hf⟩; rw [← hZL] at hf; rw [← hz, ← hZL]; have hs := hs.fresh hf; (try simp only [zcc] at hs))) | ((apply bV 43; refine bX rfl gb (by exact aB en43 rfl (cV _ rj.2.1.1 aw rj.2.1.2.1 rj.2.1.2.2 ZL.length ZL.length yj.2.1 ZL (mj1.st hs) (slU hs zmm hZo))) rfl rfl ?_; rintro _ _ ⟨rfl, hE⟩; rw [hte]; have hs := hs.ext hE; (try simp only [zcc] at hs))) | ((apply bV 184; refine bX rfl gb (by exact aB en184 rfl (rZ _ rj.2.2.2.1 rj.2.2.2.2.1 rj.2.2.2.2.2 yj.2.2.2 (s.1, (k0 : Int) + 1) (mj3.st hs))) rfl rfl ?_; rintro _ _ ⟨rfl, hE⟩; rw [hke]; have hs := hs.ext hE; (try simp only [zcc] at hs))) | (apply aU) | ((first | (apply aK) | (apply bS; exact rfl; exact gb) | (apply JX_f; exact rfl; intro W X hs) | (apply fA; exact rfl; exact rfl; exact gb; intro W X hs)); (first | (apply aX; first | exact bF (i := ((k : Int) - 1).toNat) (hrow.st hs) (hprev (by assumption)) rfl rfl aA | exact bF (i := k) (hrow.st hs) hv rfl rfl aA | exact bF (i := (s.2 - 1).toNat) (hr.st hs) hrj rfl rfl aA | exact aW hs rfl rfl aA | exact aI hs rfl aA) | (apply aQ; exact aJ rfl aA) | (apply aF; exact aC rfl aA) | (apply aS; exact aN rfl rfl aA) | (apply eW; exact dS rfl rfl (by omega) aA) | (apply aL; first | exact aM rfl rfl rfl aA | exact eA rfl rfl aA) | (apply cF; exact cG rfl aA) | (apply cH; first | exact bR rfl gb rfl aA | exact bN rfl gb rfl aA) | (apply cD; exact bU rfl rfl aA) | (apply aP; exact aO rfl rfl (by omega) (by omega) aA) | (apply dE; exact cW rfl (by (simp only [bld, dB, bY, Value.cells, List.take_succ_cons, List.take_zero, List.drop_succ_cons, List.drop_zero, List.cons_append, List.nil_append, List.length_cons, List.length_nil, List.getElem?_cons_zero, List.getElem?_cons_succ, Option.map_some, List.append_nil, Nat.reduceAdd, Nat.reduceMul, Nat.zero_add, Nat.reduceLeDiff, and_self, if_true, List.toList_toArray, Nat.le_refl, Nat.zero_mul, Nat.one_mul]; first | done | rfl)) aA)); first | (exact rfl; exact rfl) | exact rfl) | (apply bC) | (apply aG) | (apply bD) | (apply cK; refine cY rfl ?_) | (apply bK) | (apply aH (t := 12); refine JL_o (by apply bA; exact aR hs) rfl rfl ?_; rintro _ _ ⟨b12, rfl, hb12, hs, hE⟩) | (apply aH (t := 13); refine JL_o (by apply bA; exact aR hs) rfl rfl ?_; rintro _ _ ⟨b13, rfl, hb13, hs, hE⟩) | (apply bI; refine JL_u (by apply bB; exact aY hs rfl rfl rfl) rfl ?_; rintro _ _ ⟨hs, hF⟩) | (apply aT; first | refine bH rfl ob ?_ | refine bQ rfl gb ?_ | refine bM rfl gb ?_) | (apply cZ; (refine dD (id := 6) [0, 1, 3, 7, 7, 23, 63, 127, 7, 511, 1023, 2047, 4095, 8191, 8191, 24575, 65535, 131071, 262143, 524287, 1048575, 1048575, 3145727, 8388607, 1048575, 33554431, 67108863] [(0, 0), (1, 0), (2, 0), (3, 0), (4, 0), (5, 0), (6, 0), (7, 0), (8, 0), (9, 1), (10, 0), (11, 0), (12, 0), (13, 0), (14, 0), (15, 0), (16, 1), (17, 0), (18, 0), (19, 0), (20, 0), (21, 0), (22, 0), (24, 0), (23, 1), (25, 0), (26, 0)] [] hs eQ (by kernel_rfl) (by kernel_rfl) (by kernel_rfl) (by kernel_rfl) (by kernel_rfl) ?_)) | (refine cX (fun W hs => ?_)) | (refine eB rfl rfl gb rfl ?_) | (refine eC rfl rfl gb rfl ?_) | (refine dJ rfl rfl (fun hq => ?_) (fun hq => ?_); (fail_if_success (exact absurd (by clear hq; first | assumption | omega) (not_not_intro hq))); rotate_left; (fail_if_success (exact absurd (by clear hq; first | assumption | omega) hq)); rotate_left) | (apply dL))
            all_goals refine aZ Tryz.func120 rfl (.tmp rfl .nil) ⟨rfl, hs.frm.ext⟩
          have hke : decide ((s.1, (k0 : Int) + 1) ∈ yj.2.2.2) = true := decide_eq_true hin
          rw [hke] at hst
          repeat' (first | ((apply ax_c; apply cR 172; exact rfl; exact rfl; exact gb; (intro W X hN hs; exact aB mI rfl (eD _ q s (hqo (by assumption)) hso)); (rintro _ _ _ _ ⟨rfl, hE⟩; first | exact hE | exact Fresh.ext hf); rintro W X _ _ hN hs ⟨rfl, hE⟩; rw [← hcc]; have hs := hs.ext hE; (try simp only [zcc] at hs); refine JX.at hs ?_)) | ((apply ax_c; apply cR 105; exact rfl; exact rfl; exact gb; (intro W X hN hs; exact aB fI rfl (is_r _ (some ⟨p, o, none⟩) a2 n c n2 c2 N s.2 (h.st hs) hso.2)); (rintro _ _ _ _ ⟨rfl, hE⟩; first | exact hE | exact Fresh.ext hf); rintro W X _ _ hN hs ⟨rfl, hE⟩; rw [his]; have hs := hs.ext hE; (try simp only [zcc] at hs); refine JX.at hs ?_)) | ((apply ax_c; apply cR 47; exact rfl; exact rfl; exact gb; (intro W X hN hs; exact aB en47 rfl (lG _ r0.2.1.1 r0.2.1.2.1 r0.2.1.2.2 T s.1 (mT.st hs))); (rintro _ _ _ _ ⟨rfl, hE⟩; first | exact hE | exact Fresh.ext hf); rintro W X _ _ hN hs ⟨rfl, hE⟩; rw [hhas]; have hs := hs.ext hE; (try simp only [zcc] at hs); refine JX.at hs ?_)) | ((apply aV 45; refine JL_o (by exact aB en45 rfl (iK _ r0.2.1.1 r0.2.1.2.1 r0.2.1.2.2 T s.1 (mT.st hs) hso.1)) rfl rfl ?_; rintro _ _ ⟨aw, rfl, hf⟩; rw [← hZL] at hf; rw [← hz, ← hZL]; have hs := hs.fresh hf; (try simp only [zcc] at hs))) | ((apply bV 43; refine bX rfl gb (by exact aB en43 rfl (cV _ rj.2.1.1 aw rj.2.1.2.1 rj.2.1.2.2 ZL.length ZL.length yj.2.1 ZL (mj1.st hs) (slU hs zmm hZo))) rfl rfl ?_; rintro _ _ ⟨rfl, hE⟩; rw [hte]; have hs := hs.ext hE; (try simp only [zcc] at hs))) | ((apply bV 184; refine bX rfl gb (by exact aB en184 rfl (rZ _ rj.2.2.2.1 rj.2.2.2.2.1 rj.2.2.2.2.2 yj.2.2.2 (s.1, (k0 : Int) + 1) (mj3.st hs))) rfl rfl ?_; rintro _ _ ⟨rfl, hE⟩; rw [hke]; have hs := hs.ext hE; (try simp only [zcc] at hs))) | (apply aU) | ((first | (apply aK) | (apply bS; exact rfl; exact gb) | (apply JX_f; exact rfl; intro W X hs) | (apply fA; exact rfl; exact rfl; exact gb; intro W X hs)); (first | (apply aX; first | exact bF (i := ((k : Int) - 1).toNat) (hrow.st hs) (hprev (by assumption)) rfl rfl aA | exact bF (i := k) (hrow.st hs) hv rfl rfl aA | exact bF (i := (s.2 - 1).toNat) (hr.st hs) hrj rfl rfl aA | exact aW hs rfl rfl aA | exact aI hs rfl aA) | (apply aQ; exact aJ rfl aA) | (apply aF; exact aC rfl aA) | (apply aS; exact aN rfl rfl aA) | (apply cO; exact bT rfl rfl (by omega) (by first | (simp only [Int.reduceAdd]; exact rfl) | exact rfl) aA) | (apply eW; exact dS rfl rfl (by omega) aA) | (apply aL; first | exact aM rfl rfl rfl aA | exact eA rfl rfl aA) | (apply cF; exact cG rfl aA) | (apply cH; first | exact bR rfl gb rfl aA | exact bN rfl gb rfl aA) | (apply cD; exact bU rfl rfl aA) | (apply aP; exact aO rfl rfl (by omega) (by omega) aA) | (apply dE; exact cW rfl (by (simp only [bld, dB, bY, Value.cells, List.take_succ_cons, List.take_zero, List.drop_succ_cons, List.drop_zero, List.cons_append, List.nil_append, List.length_cons, List.length_nil, List.getElem?_cons_zero, List.getElem?_cons_succ, Option.map_some, List.append_nil, Nat.reduceAdd, Nat.reduceMul, Nat.zero_add, Nat.reduceLeDiff, and_self, if_true, List.toList_toArray, Nat.le_refl, Nat.zero_mul, Nat.one_mul]; first | done | rfl)) aA)); first | (exact rfl; exact rfl) | exact rfl) | (apply bC) | (apply aG) | (apply bD) | (apply bP) | (apply bK) | (apply aH (t := 12); refine JL_o (by apply bA; exact aR hs) rfl rfl ?_; rintro _ _ ⟨b12, rfl, hb12, hs, hE⟩) | (apply aH (t := 13); refine JL_o (by apply bA; exact aR hs) rfl rfl ?_; rintro _ _ ⟨b13, rfl, hb13, hs, hE⟩) | (apply bI; refine JL_u (by apply bB; exact aY hs rfl rfl rfl) rfl ?_; rintro _ _ ⟨hs, hF⟩) | (apply aT; first | refine bH rfl ob ?_ | refine bQ rfl gb ?_ | refine bM rfl gb ?_) | (apply cZ; (refine dD (id := 6) [0, 1, 3, 7, 7, 23, 63, 127, 7, 511, 1023, 2047, 4095, 8191, 8191, 24575, 65535, 131071, 262143, 524287, 1048575, 1048575, 3145727, 8388607, 1048575, 33554431, 67108863] [(0, 0), (1, 0), (2, 0), (3, 0), (4, 0), (5, 0), (6, 0), (7, 0), (8, 0), (9, 1), (10, 0), (11, 0), (12, 0), (13, 0), (14, 0), (15, 0), (16, 1), (17, 0), (18, 0), (19, 0), (20, 0), (21, 0), (22, 0), (24, 0), (23, 1), (25, 0), (26, 0)] [] hs eQ (by kernel_rfl) (by kernel_rfl) (by kernel_rfl) (by kernel_rfl) (by kernel_rfl) ?_)) | (refine cX (fun W hs => ?_)) | (refine eB rfl rfl gb rfl ?_) | (refine eC rfl rfl gb rfl ?_) | (refine dJ rfl rfl (fun hq => ?_) (fun hq => ?_); (fail_if_success (exact absurd (by clear hq; first | assumption | omega) (not_not_intro hq))); rotate_left; (fail_if_success (exact absurd (by clear hq; first | assumption | omega) hq)); rotate_left) | (apply dL))
          all_goals refine ih (k + 1) _ _ ⟨hs.sel [3] (by decide), hlt, fun j2 hj2 => ?_⟩ (by omega) zss
          all_goals
            by_cases e : j2 = k
            · rw [e, hst]; rfl
            · exact hall j2 (by omega)
    | false =>
      cases ib with
      | false =>
        rw [eS (k := k) (by omega) (by rw [hst]; rfl)]
        repeat' (first | ((apply ax_c; apply cR 172; exact rfl; exact rfl; exact gb; (intro W X hN hs; exact aB mI rfl (eD _ q s (hqo (by assumption)) hso)); (rintro _ _ _ _ ⟨rfl, hE⟩; first | exact hE | exact Fresh.ext hf); rintro W X _ _ hN hs ⟨rfl, hE⟩; rw [← hcc]; have hs := hs.ext hE; (try simp only [zcc] at hs); refine JX.at hs ?_)) | ((apply ax_c; apply cR 105; exact rfl; exact rfl; exact gb; (intro W X hN hs; exact aB fI rfl (is_r _ (some ⟨p, o, none⟩) a2 n c n2 c2 N s.2 (h.st hs) hso.2)); (rintro _ _ _ _ ⟨rfl, hE⟩; first | exact hE | exact Fresh.ext hf); rintro W X _ _ hN hs ⟨rfl, hE⟩; rw [his]; have hs := hs.ext hE; (try simp only [zcc] at hs); refine JX.at hs ?_)) | (apply aU) | ((first | (apply aK) | (apply JX_f; exact rfl; intro W X hs) | (apply fA; exact rfl; exact rfl; exact gb; intro W X hs)); (first | (apply aX; first | exact bF (i := ((k : Int) - 1).toNat) (hrow.st hs) (hprev (by assumption)) rfl rfl aA | exact bF (i := k) (hrow.st hs) hv rfl rfl aA | exact aW hs rfl rfl aA | exact aI hs rfl aA) | (apply aQ; exact aJ rfl aA) | (apply aF; exact aC rfl aA) | (apply aS; exact aN rfl rfl aA) | (apply eW; exact dS rfl rfl (by omega) aA) | (apply aL; exact aM rfl rfl rfl aA) | (apply cF; exact cG rfl aA) | (apply cH; first | exact bR rfl gb rfl aA | exact bN rfl gb rfl aA) | (apply aP; exact aO rfl rfl (by omega) (by omega) aA)); first | (exact rfl; exact rfl) | exact rfl) | (apply bC) | (apply aG) | (apply bD) | (apply cK; refine cY rfl ?_) | (apply bK) | (apply aH (t := 12); refine JL_o (by apply bA; exact aR hs) rfl rfl ?_; rintro _ _ ⟨b12, rfl, hb12, hs, hE⟩) | (apply bI; refine JL_u (by apply bB; exact aY hs rfl rfl rfl) rfl ?_; rintro _ _ ⟨hs, hF⟩) | (apply aT; first | refine bH rfl ob ?_ | refine bQ rfl gb ?_) | (apply cZ; (refine dD (id := 6) [0, 1, 3, 7, 7, 23, 63, 127, 7, 511, 1023, 2047, 4095, 8191, 8191, 24575, 65535, 131071, 262143, 524287, 1048575, 1048575, 3145727, 8388607, 1048575, 33554431, 67108863] [(0, 0), (1, 0), (2, 0), (3, 0), (4, 0), (5, 0), (6, 0), (7, 0), (8, 0), (9, 1), (10, 0), (11, 0), (12, 0), (13, 0), (14, 0), (15, 0), (16, 1), (17, 0), (18, 0), (19, 0), (20, 0), (21, 0), (22, 0), (24, 0), (23, 1), (25, 0), (26, 0)] [] hs eQ (by kernel_rfl) (by kernel_rfl) (by kernel_rfl) (by kernel_rfl) (by kernel_rfl) ?_)) | (refine cX (fun W hs => ?_)) | (refine eB rfl rfl gb rfl ?_) | (refine eC rfl rfl gb rfl ?_) | (refine dJ rfl rfl (fun hq => ?_) (fun hq => ?_); (fail_if_success (exact absurd (by clear hq; first | assumption | omega) (not_not_intro hq))); rotate_left; (fail_if_success (exact absurd (by clear hq; first | assumption | omega) hq)); rotate_left) | (apply dL))
        all_goals refine aZ Tryz.func120 rfl (.tmp rfl .nil) ⟨rfl, hs.frm.ext⟩
      | true =>
        obtain ⟨j, yj, hj, hyj, hyu⟩ := isM_true.1 his
        have hjl := (List.getElem?_eq_some_iff.1 hyj).1
        obtain ⟨rj, hrj0, f1, f2, f3, f4⟩ := hm.get hyj
        have mj1 : Sl dId All w rj.2.1.1 rj.2.1.2.1 rj.2.1.2.2 yj.2.1 := f2
        have mj2 : Sl dStp All w rj.2.2.1.1 rj.2.2.1.2.1 rj.2.2.1.2.2 yj.2.2.1 := f3
        have mj3 : Sl dStp All w rj.2.2.2.1 rj.2.2.2.2.1 rj.2.2.2.2.2 yj.2.2.2 := f4
        have hrj : rs[(s.2 - 1).toNat]? = some rj := by rw [hj, show ((j : Int) + 1 - 1).toNat = j by omega]; exact hrj0
        have hsj : 1 ≤ s.2 ∧ s.2 ≤ n := by omega
        have hnj : dT N s.2 = yj := by rw [hj]; exact dM hyj
        rw [hnj] at hst
        cases hb with
        | false =>
          rw [eS (k := k) (by omega) (by rw [hst]; rfl)]
          repeat' (first | ((apply ax_c; apply cR 172; exact rfl; exact rfl; exact gb; (intro W X hN hs; exact aB mI rfl (eD _ q s (hqo (by assumption)) hso)); (rintro _ _ _ _ ⟨rfl, hE⟩; first | exact hE | exact Fresh.ext hf); rintro W X _ _ hN hs ⟨rfl, hE⟩; rw [← hcc]; have hs := hs.ext hE; (try simp only [zcc] at hs); refine JX.at hs ?_)) | ((apply ax_c; apply cR 105; exact rfl; exact rfl; exact gb; (intro W X hN hs; exact aB fI rfl (is_r _ (some ⟨p, o, none⟩) a2 n c n2 c2 N s.2 (h.st hs) hso.2)); (rintro _ _ _ _ ⟨rfl, hE⟩; first | exact hE | exact Fresh.ext hf); rintro W X _ _ hN hs ⟨rfl, hE⟩; rw [his]; have hs := hs.ext hE; (try simp only [zcc] at hs); refine JX.at hs ?_)) | ((apply ax_c; apply cR 47; exact rfl; exact rfl; exact gb; (intro W X hN hs; exact aB en47 rfl (lG _ r0.2.1.1 r0.2.1.2.1 r0.2.1.2.2 T s.1 (mT.st hs))); (rintro _ _ _ _ ⟨rfl, hE⟩; first | exact hE | exact Fresh.ext hf); rintro W X _ _ hN hs ⟨rfl, hE⟩; rw [hhas]; have hs := hs.ext hE; (try simp only [zcc] at hs); refine JX.at hs ?_)) | (apply aU) | ((first | (apply aK) | (apply JX_f; exact rfl; intro W X hs) | (apply fA; exact rfl; exact rfl; exact gb; intro W X hs)); (first | (apply aX; first | exact bF (i := ((k : Int) - 1).toNat) (hrow.st hs) (hprev (by assumption)) rfl rfl aA | exact bF (i := k) (hrow.st hs) hv rfl rfl aA | exact aW hs rfl rfl aA | exact aI hs rfl aA) | (apply aQ; exact aJ rfl aA) | (apply aF; exact aC rfl aA) | (apply aS; exact aN rfl rfl aA) | (apply eW; exact dS rfl rfl (by omega) aA) | (apply aL; first | exact aM rfl rfl rfl aA | exact eA rfl rfl aA) | (apply cF; exact cG rfl aA) | (apply cH; first | exact bR rfl gb rfl aA | exact bN rfl gb rfl aA) | (apply aP; exact aO rfl rfl (by omega) (by omega) aA)); first | (exact rfl; exact rfl) | exact rfl) | (apply bC) | (apply aG) | (apply bD) | (apply cK; refine cY rfl ?_) | (apply bK) | (apply aH (t := 12); refine JL_o (by apply bA; exact aR hs) rfl rfl ?_; rintro _ _ ⟨b12, rfl, hb12, hs, hE⟩) | (apply bI; refine JL_u (by apply bB; exact aY hs rfl rfl rfl) rfl ?_; rintro _ _ ⟨hs, hF⟩) | (apply aT; first | refine bH rfl ob ?_ | refine bQ rfl gb ?_) | (apply cZ; (refine dD (id := 6) [0, 1, 3, 7, 7, 23, 63, 127, 7, 511, 1023, 2047, 4095, 8191, 8191, 24575, 65535, 131071, 262143, 524287, 1048575, 1048575, 3145727, 8388607, 1048575, 33554431, 67108863] [(0, 0), (1, 0), (2, 0), (3, 0), (4, 0), (5, 0), (6, 0), (7, 0), (8, 0), (9, 1), (10, 0), (11, 0), (12, 0), (13, 0), (14, 0), (15, 0), (16, 1), (17, 0), (18, 0), (19, 0), (20, 0), (21, 0), (22, 0), (24, 0), (23, 1), (25, 0), (26, 0)] [] hs eQ (by kernel_rfl) (by kernel_rfl) (by kernel_rfl) (by kernel_rfl) (by kernel_rfl) ?_)) | (refine cX (fun W hs => ?_)) | (refine eB rfl rfl gb rfl ?_) | (refine eC rfl rfl gb rfl ?_) | (refine dJ rfl rfl (fun hq => ?_) (fun hq => ?_); (fail_if_success (exact absurd (by clear hq; first | assumption | omega) (not_not_intro hq))); rotate_left; (fail_if_success (exact absurd (by clear hq; first | assumption | omega) hq)); rotate_left) | (apply dL))
          all_goals refine aZ Tryz.func120 rfl (.tmp rfl .nil) ⟨rfl, hs.frm.ext⟩
        | true =>
          obtain ⟨z, hz⟩ : ∃ z, z = outC T s.1 := ⟨_, rfl⟩
          obtain ⟨ZL, hZL⟩ : ∃ z, z = outL T s.1 := ⟨_, rfl⟩
          have hzt : xW false T s.1 = z := by rw [hz]; rfl
          have hzl : xV false T s.1 = ZL := by rw [hZL]; rfl
          have hbk : xP yj false = yj.2.2.1 := rfl
          have hZo : ∀ x ∈ ZL, okId x := by rw [hZL]; unfold outL; split; exact (fun x hx => nY mT x (outT_mem.1 hx).1); exact (fun x hx => by cases hx)
          rw [hzt, hzl, hbk] at hst
          by_cases hz0 : z = 0
          rotate_left
          · rw [eS (k := k) (by omega) (by rw [hst, decide_eq_false hz0]; rfl)]
            repeat' (first | ((apply ax_c; apply cR 172; exact rfl; exact rfl; exact gb; (intro W X hN hs; exact aB mI rfl (eD _ q s (hqo (by assumption)) hso)); (rintro _ _ _ _ ⟨rfl, hE⟩; first | exact hE | exact Fresh.ext hf); rintro W X _ _ hN hs ⟨rfl, hE⟩; rw [← hcc]; have hs := hs.ext hE; (try simp only [zcc] at hs); refine JX.at hs ?_)) | ((apply ax_c; apply cR 105; exact rfl; exact rfl; exact gb; (intro W X hN hs; exact aB fI rfl (is_r _ (some ⟨p, o, none⟩) a2 n c n2 c2 N s.2 (h.st hs) hso.2)); (rintro _ _ _ _ ⟨rfl, hE⟩; first | exact hE | exact Fresh.ext hf); rintro W X _ _ hN hs ⟨rfl, hE⟩; rw [his]; have hs := hs.ext hE; (try simp only [zcc] at hs); refine JX.at hs ?_)) | ((apply ax_c; apply cR 47; exact rfl; exact rfl; exact gb; (intro W X hN hs; exact aB en47 rfl (lG _ r0.2.1.1 r0.2.1.2.1 r0.2.1.2.2 T s.1 (mT.st hs))); (rintro _ _ _ _ ⟨rfl, hE⟩; first | exact hE | exact Fresh.ext hf); rintro W X _ _ hN hs ⟨rfl, hE⟩; rw [hhas]; have hs := hs.ext hE; (try simp only [zcc] at hs); refine JX.at hs ?_)) | ((apply aV 101; refine JL_o (by exact aB uX rfl (jJ _ r0.2.1.1 r0.2.1.2.1 r0.2.1.2.2 T s.1 (mT.st hs))) rfl rfl ?_; rintro _ _ ⟨aw, cw, rfl, hf⟩; rw [← hZL] at hf; rw [← hz, ← hZL]; have hs := hs.fresh hf; (try simp only [zcc] at hs))) | (apply aU) | ((first | (apply aK) | (apply JX_f; exact rfl; intro W X hs) | (apply fA; exact rfl; exact rfl; exact gb; intro W X hs)); (first | (apply aX; first | exact bF (i := ((k : Int) - 1).toNat) (hrow.st hs) (hprev (by assumption)) rfl rfl aA | exact bF (i := k) (hrow.st hs) hv rfl rfl aA | exact bF (i := (s.2 - 1).toNat) (hr.st hs) hrj rfl rfl aA | exact aW hs rfl rfl aA | exact aI hs rfl aA) | (apply aQ; exact aJ rfl aA) | (apply aF; exact aC rfl aA) | (apply aS; exact aN rfl rfl aA) | (apply eW; exact dS rfl rfl (by omega) aA) | (apply aL; first | exact aM rfl rfl rfl aA | exact eA rfl rfl aA) | (apply cF; exact cG rfl aA) | (apply cH; first | exact bR rfl gb rfl aA | exact bN rfl gb rfl aA) | (apply cD; exact bU rfl rfl aA) | (apply aP; exact aO rfl rfl (by omega) (by omega) aA)); first | (exact rfl; exact rfl) | exact rfl) | (apply bC) | (apply aG) | (apply bD) | (apply cK; refine cY rfl ?_) | (apply bK) | (apply aH (t := 12); refine JL_o (by apply bA; exact aR hs) rfl rfl ?_; rintro _ _ ⟨b12, rfl, hb12, hs, hE⟩) | (apply aH (t := 13); refine JL_o (by apply bA; exact aR hs) rfl rfl ?_; rintro _ _ ⟨b13, rfl, hb13, hs, hE⟩) | (apply bI; refine JL_u (by apply bB; exact aY hs rfl rfl rfl) rfl ?_; rintro _ _ ⟨hs, hF⟩) | (apply cM; (refine fB rfl gb rfl ?_)) | (apply aT; first | refine bH rfl ob ?_ | refine bQ rfl gb ?_ | refine bM rfl gb ?_) | (apply cZ; (refine dD (id := 6) [0, 1, 3, 7, 7, 23, 63, 127, 7, 511, 1023, 2047, 4095, 8191, 8191, 24575, 65535, 131071, 262143, 524287, 1048575, 1048575, 3145727, 8388607, 1048575, 33554431, 67108863] [(0, 0), (1, 0), (2, 0), (3, 0), (4, 0), (5, 0), (6, 0), (7, 0), (8, 0), (9, 1), (10, 0), (11, 0), (12, 0), (13, 0), (14, 0), (15, 0), (16, 1), (17, 0), (18, 0), (19, 0), (20, 0), (21, 0), (22, 0), (24, 0), (23, 1), (25, 0), (26, 0)] [] hs eQ (by kernel_rfl) (by kernel_rfl) (by kernel_rfl) (by kernel_rfl) (by kernel_rfl) ?_)) | (refine cX (fun W hs => ?_)) | (refine eB rfl rfl gb rfl ?_) | (refine eC rfl rfl gb rfl ?_) | (refine dJ rfl rfl (fun hq => ?_) (fun hq => ?_); (fail_if_success (exact absurd (by clear hq; first | assumption | omega) (not_not_intro hq))); rotate_left; (fail_if_success (exact absurd (by clear hq; first | assumption | omega) hq)); rotate_left) | (apply dL))
            all_goals refine aZ Tryz.func120 rfl (.tmp rfl .nil) ⟨rfl, hs.frm.ext⟩
          rw [decide_eq_true hz0] at hst
          have hz1 : ¬ z ≠ 0 := fun e => e hz0
          by_cases hty : yj.2.1 = ZL
          rotate_left
          · have hte : decide (yj.2.1 = ZL) = false := decide_eq_false hty
            rw [eS (k := k) (by omega) (by rw [hst, hte]; rfl)]
            repeat' (first | ((apply ax_c; apply cR 172; exact rfl; exact rfl; exact gb; (intro W X hN hs; exact aB mI rfl (eD _ q s (hqo (by assumption)) hso)); (rintro _ _ _ _ ⟨rfl, hE⟩; first | exact hE | exact Fresh.ext hf); rintro W X _ _ hN hs ⟨rfl, hE⟩; rw [← hcc]; have hs := hs.ext hE; (try simp only [zcc] at hs); refine JX.at hs ?_)) | ((apply ax_c; apply cR 105; exact rfl; exact rfl; exact gb; (intro W X hN hs; exact aB fI rfl (is_r _ (some ⟨p, o, none⟩) a2 n c n2 c2 N s.2 (h.st hs) hso.2)); (rintro _ _ _ _ ⟨rfl, hE⟩; first | exact hE | exact Fresh.ext hf); rintro W X _ _ hN hs ⟨rfl, hE⟩; rw [his]; have hs := hs.ext hE; (try simp only [zcc] at hs); refine JX.at hs ?_)) | ((apply ax_c; apply cR 47; exact rfl; exact rfl; exact gb; (intro W X hN hs; exact aB en47 rfl (lG _ r0.2.1.1 r0.2.1.2.1 r0.2.1.2.2 T s.1 (mT.st hs))); (rintro _ _ _ _ ⟨rfl, hE⟩; first | exact hE | exact Fresh.ext hf); rintro W X _ _ hN hs ⟨rfl, hE⟩; rw [hhas]; have hs := hs.ext hE; (try simp only [zcc] at hs); refine JX.at hs ?_)) | ((apply aV 101; refine JL_o (by exact aB uX rfl (jJ _ r0.2.1.1 r0.2.1.2.1 r0.2.1.2.2 T s.1 (mT.st hs))) rfl rfl ?_; rintro _ _ ⟨aw, cw, rfl, hf⟩; rw [← hZL] at hf; rw [← hz, ← hZL]; have hs := hs.fresh hf; (try simp only [zcc] at hs))) | ((apply bV 43; refine bX rfl gb (by exact aB en43 rfl (cV _ rj.2.1.1 aw rj.2.1.2.1 rj.2.1.2.2 ZL.length cw yj.2.1 ZL (mj1.st hs) (slU hs zmm hZo))) rfl rfl ?_; rintro _ _ ⟨rfl, hE⟩; rw [hte]; have hs := hs.ext hE; (try simp only [zcc] at hs))) | (apply aU) | ((first | (apply aK) | (apply bS; exact rfl; exact gb) | (apply JX_f; exact rfl; intro W X hs) | (apply fA; exact rfl; exact rfl; exact gb; intro W X hs)); (first | (apply aX; first | exact bF (i := ((k : Int) - 1).toNat) (hrow.st hs) (hprev (by assumption)) rfl rfl aA | exact bF (i := k) (hrow.st hs) hv rfl rfl aA | exact bF (i := (s.2 - 1).toNat) (hr.st hs) hrj rfl rfl aA | exact aW hs rfl rfl aA | exact aI hs rfl aA) | (apply aQ; exact aJ rfl aA) | (apply aF; exact aC rfl aA) | (apply aS; exact aN rfl rfl aA) | (apply eW; exact dS rfl rfl (by omega) aA) | (apply aL; first | exact aM rfl rfl rfl aA | exact eA rfl rfl aA) | (apply cF; exact cG rfl aA) | (apply cH; first | exact bR rfl gb rfl aA | exact bN rfl gb rfl aA) | (apply cD; exact bU rfl rfl aA) | (apply aP; exact aO rfl rfl (by omega) (by omega) aA)); first | (exact rfl; exact rfl) | exact rfl) | (apply bC) | (apply aG) | (apply bD) | (apply cK; refine cY rfl ?_) | (apply bK) | (apply aH (t := 12); refine JL_o (by apply bA; exact aR hs) rfl rfl ?_; rintro _ _ ⟨b12, rfl, hb12, hs, hE⟩) | (apply aH (t := 13); refine JL_o (by apply bA; exact aR hs) rfl rfl ?_; rintro _ _ ⟨b13, rfl, hb13, hs, hE⟩) | (apply bI; refine JL_u (by apply bB; exact aY hs rfl rfl rfl) rfl ?_; rintro _ _ ⟨hs, hF⟩) | (apply cM; (refine fB rfl gb rfl ?_)) | (apply aT; first | refine bH rfl ob ?_ | refine bQ rfl gb ?_ | refine bM rfl gb ?_) | (apply cZ; (refine dD (id := 6) [0, 1, 3, 7, 7, 23, 63, 127, 7, 511, 1023, 2047, 4095, 8191, 8191, 24575, 65535, 131071, 262143, 524287, 1048575, 1048575, 3145727, 8388607, 1048575, 33554431, 67108863] [(0, 0), (1, 0), (2, 0), (3, 0), (4, 0), (5, 0), (6, 0), (7, 0), (8, 0), (9, 1), (10, 0), (11, 0), (12, 0), (13, 0), (14, 0), (15, 0), (16, 1), (17, 0), (18, 0), (19, 0), (20, 0), (21, 0), (22, 0), (24, 0), (23, 1), (25, 0), (26, 0)] [] hs eQ (by kernel_rfl) (by kernel_rfl) (by kernel_rfl) (by kernel_rfl) (by kernel_rfl) ?_)) | (refine cX (fun W hs => ?_)) | (refine eB rfl rfl gb rfl ?_) | (refine eC rfl rfl gb rfl ?_) | (refine dJ rfl rfl (fun hq => ?_) (fun hq => ?_); (fail_if_success (exact absurd (by clear hq; first | assumption | omega) (not_not_intro hq))); rotate_left; (fail_if_success (exact absurd (by clear hq; first | assumption | omega) hq)); rotate_left) | (apply dL))
            all_goals refine aZ Tryz.func120 rfl (.tmp rfl .nil) ⟨rfl, hs.frm.ext⟩
          have hte : decide (yj.2.1 = ZL) = true := decide_eq_true hty
          rw [hte] at hst
          by_cases hin : (s.1, (k0 : Int) + 1) ∈ yj.2.2.1
          rotate_left
          · have hke : decide ((s.1, (k0 : Int) + 1) ∈ yj.2.2.1) = false := decide_eq_false hin
            rw [eS (k := k) (by omega) (by rw [hst, hke]; rfl)]
            repeat' (first | ((apply ax_c; apply cR 172; exact rfl; exact rfl; exact gb; (intro W X hN hs; exact aB mI rfl (eD _ q s (hqo (by assumption)) hso)); (rintro _ _ _ _ ⟨rfl, hE⟩; first | exact hE | exact Fresh.ext hf); rintro W X _ _ hN hs ⟨rfl, hE⟩; rw [← hcc]; have hs := hs.ext hE; (try simp only [zcc] at hs); refine JX.at hs ?_)) | ((apply ax_c; apply cR 105; exact rfl; exact rfl; exact gb; (intro W X hN hs; exact aB fI rfl (is_r _ (some ⟨p, o, none⟩) a2 n c n2 c2 N s.2 (h.st hs) hso.2)); (rintro _ _ _ _ ⟨rfl, hE⟩; first | exact hE | exact Fresh.ext hf); rintro W X _ _ hN hs ⟨rfl, hE⟩; rw [his]; have hs := hs.ext hE; (try simp only [zcc] at hs); refine JX.at hs ?_)) | ((apply ax_c; apply cR 47; exact rfl; exact rfl; exact gb; (intro W X hN hs; exact aB en47 rfl (lG _ r0.2.1.1 r0.2.1.2.1 r0.2.1.2.2 T s.1 (mT.st hs))); (rintro _ _ _ _ ⟨rfl, hE⟩; first | exact hE | exact Fresh.ext hf); rintro W X _ _ hN hs ⟨rfl, hE⟩; rw [hhas]; have hs := hs.ext hE; (try simp only [zcc] at hs); refine JX.at hs ?_)) | ((apply aV 101; refine JL_o (by exact aB uX rfl (jJ _ r0.2.1.1 r0.2.1.2.1 r0.2.1.2.2 T s.1 (mT.st hs))) rfl rfl ?_; rintro _ _ ⟨aw, cw, rfl, hf⟩; rw [← hZL] at hf; rw [← hz, ← hZL]; have hs := hs.fresh hf; (try simp only [zcc] at hs))) | ((apply bV 43; refine bX rfl gb (by exact aB en43 rfl (cV _ rj.2.1.1 aw rj.2.1.2.1 rj.2.1.2.2 ZL.length cw yj.2.1 ZL (mj1.st hs) (slU hs zmm hZo))) rfl rfl ?_; rintro _ _ ⟨rfl, hE⟩; rw [hte]; have hs := hs.ext hE; (try simp only [zcc] at hs))) | ((apply bV 184; refine bX rfl gb (by exact aB en184 rfl (rZ _ rj.2.2.1.1 rj.2.2.1.2.1 rj.2.2.1.2.2 yj.2.2.1 (s.1, (k0 : Int) + 1) (mj2.st hs))) rfl rfl ?_; rintro _ _ ⟨rfl, hE⟩; rw [hke]; have hs := hs.ext hE; (try simp only [zcc] at hs))) | (apply aU) | ((first | (apply aK) | (apply bS; exact rfl; exact gb) | (apply JX_f; exact rfl; intro W X hs) | (apply fA; exact rfl; exact rfl; exact gb; intro W X hs)); (first | (apply aX; first | exact bF (i := ((k : Int) - 1).toNat) (hrow.st hs) (hprev (by assumption)) rfl rfl aA | exact bF (i := k) (hrow.st hs) hv rfl rfl aA | exact bF (i := (s.2 - 1).toNat) (hr.st hs) hrj rfl rfl aA | exact aW hs rfl rfl aA | exact aI hs rfl aA) | (apply aQ; exact aJ rfl aA) | (apply aF; exact aC rfl aA) | (apply aS; exact aN rfl rfl aA) | (apply eW; exact dS rfl rfl (by omega) aA) | (apply aL; first | exact aM rfl rfl rfl aA | exact eA rfl rfl aA) | (apply cF; exact cG rfl aA) | (apply cH; first | exact bR rfl gb rfl aA | exact bN rfl gb rfl aA) | (apply cD; exact bU rfl rfl aA) | (apply aP; exact aO rfl rfl (by omega) (by omega) aA) | (apply dE; exact cW rfl (by (simp only [bld, dB, bY, Value.cells, List.take_succ_cons, List.take_zero, List.drop_succ_cons, List.drop_zero, List.cons_append, List.nil_append, List.length_cons, List.length_nil, List.getElem?_cons_zero, List.getElem?_cons_succ, Option.map_some, List.append_nil, Nat.reduceAdd, Nat.reduceMul, Nat.zero_add, Nat.reduceLeDiff, and_self, if_true, List.toList_toArray, Nat.le_refl, Nat.zero_mul, Nat.one_mul]; first | done | rfl)) aA)); first | (exact rfl; exact rfl) | exact rfl) | (apply bC) | (apply aG) | (apply bD) | (apply cK; refine cY rfl ?_) | (apply bK) | (apply aH (t := 12); refine JL_o (by apply bA; exact aR hs) rfl rfl ?_; rintro _ _ ⟨b12, rfl, hb12, hs, hE⟩) | (apply aH (t := 13); refine JL_o (by apply bA; exact aR hs) rfl rfl ?_; rintro _ _ ⟨b13, rfl, hb13, hs, hE⟩) | (apply bI; refine JL_u (by apply bB; exact aY hs rfl rfl rfl) rfl ?_; rintro _ _ ⟨hs, hF⟩) | (apply aT; first | refine bH rfl ob ?_ | refine bQ rfl gb ?_ | refine bM rfl gb ?_) | (apply cZ; (refine dD (id := 6) [0, 1, 3, 7, 7, 23, 63, 127, 7, 511, 1023, 2047, 4095, 8191, 8191, 24575, 65535, 131071, 262143, 524287, 1048575, 1048575, 3145727, 8388607, 1048575, 33554431, 67108863] [(0, 0), (1, 0), (2, 0), (3, 0), (4, 0), (5, 0), (6, 0), (7, 0), (8, 0), (9, 1), (10, 0), (11, 0), (12, 0), (13, 0), (14, 0), (15, 0), (16, 1), (17, 0), (18, 0), (19, 0), (20, 0), (21, 0), (22, 0), (24, 0), (23, 1), (25, 0), (26, 0)] [] hs eQ (by kernel_rfl) (by kernel_rfl) (by kernel_rfl) (by kernel_rfl) (by kernel_rfl) ?_)) | (refine cX (fun W hs => ?_)) | (refine eB rfl rfl gb rfl ?_) | (refine eC rfl rfl gb rfl ?_) | (refine dJ rfl rfl (fun hq => ?_) (fun hq => ?_); (fail_if_success (exact absurd (by clear hq; first | assumption | omega) (not_not_intro hq))); rotate_left; (fail_if_success (exact absurd (by clear hq; first | assumption | omega) hq)); rotate_left) | (apply dL))
            all_goals refine aZ Tryz.func120 rfl (.tmp rfl .nil) ⟨rfl, hs.frm.ext⟩
          have hke : decide ((s.1, (k0 : Int) + 1) ∈ yj.2.2.1) = true := decide_eq_true hin
          rw [hke] at hst
          repeat' (first | ((apply ax_c; apply cR 172; exact rfl; exact rfl; exact gb; (intro W X hN hs; exact aB mI rfl (eD _ q s (hqo (by assumption)) hso)); (rintro _ _ _ _ ⟨rfl, hE⟩; first | exact hE | exact Fresh.ext hf); rintro W X _ _ hN hs ⟨rfl, hE⟩; rw [← hcc]; have hs := hs.ext hE; (try simp only [zcc] at hs); refine JX.at hs ?_)) | ((apply ax_c; apply cR 105; exact rfl; exact rfl; exact gb; (intro W X hN hs; exact aB fI rfl (is_r _ (some ⟨p, o, none⟩) a2 n c n2 c2 N s.2 (h.st hs) hso.2)); (rintro _ _ _ _ ⟨rfl, hE⟩; first | exact hE | exact Fresh.ext hf); rintro W X _ _ hN hs ⟨rfl, hE⟩; rw [his]; have hs := hs.ext hE; (try simp only [zcc] at hs); refine JX.at hs ?_)) | ((apply ax_c; apply cR 47; exact rfl; exact rfl; exact gb; (intro W X hN hs; exact aB en47 rfl (lG _ r0.2.1.1 r0.2.1.2.1 r0.2.1.2.2 T s.1 (mT.st hs))); (rintro _ _ _ _ ⟨rfl, hE⟩; first | exact hE | exact Fresh.ext hf); rintro W X _ _ hN hs ⟨rfl, hE⟩; rw [hhas]; have hs := hs.ext hE; (try simp only [zcc] at hs); refine JX.at hs ?_)) | ((apply aV 101; refine JL_o (by exact aB uX rfl (jJ _ r0.2.1.1 r0.2.1.2.1 r0.2.1.2.2 T s.1 (mT.st hs))) rfl rfl ?_; rintro _ _ ⟨aw, cw, rfl, hf⟩; rw [← hZL] at hf; rw [← hz, ← hZL]; have hs := hs.fresh hf; (try simp only [zcc] at hs))) | ((apply bV 43; refine bX rfl gb (by exact aB en43 rfl (cV _ rj.2.1.1 aw rj.2.1.2.1 rj.2.1.2.2 ZL.length cw yj.2.1 ZL (mj1.st hs) (slU hs zmm hZo))) rfl rfl ?_; rintro _ _ ⟨rfl, hE⟩; rw [hte]; have hs := hs.ext hE; (try simp only [zcc] at hs))) | ((apply bV 184; refine bX rfl gb (by exact aB en184 rfl (rZ _ rj.2.2.1.1 rj.2.2.1.2.1 rj.2.2.1.2.2 yj.2.2.1 (s.1, (k0 : Int) + 1) (mj2.st hs))) rfl rfl ?_; rintro _ _ ⟨rfl, hE⟩; rw [hke]; have hs := hs.ext hE; (try simp only [zcc] at hs))) | (apply aU) | ((first | (apply aK) | (apply bS; exact rfl; exact gb) | (apply JX_f; exact rfl; intro W X hs) | (apply fA; exact rfl; exact rfl; exact gb; intro W X hs)); (first | (apply aX; first | exact bF (i := ((k : Int) - 1).toNat) (hrow.st hs) (hprev (by assumption)) rfl rfl aA | exact bF (i := k) (hrow.st hs) hv rfl rfl aA | exact bF (i := (s.2 - 1).toNat) (hr.st hs) hrj rfl rfl aA | exact aW hs rfl rfl aA | exact aI hs rfl aA) | (apply aQ; exact aJ rfl aA) | (apply aF; exact aC rfl aA) | (apply aS; exact aN rfl rfl aA) | (apply cO; exact bT rfl rfl (by omega) (by first | (simp only [Int.reduceAdd]; exact rfl) | exact rfl) aA) | (apply eW; exact dS rfl rfl (by omega) aA) | (apply aL; first | exact aM rfl rfl rfl aA | exact eA rfl rfl aA) | (apply cF; exact cG rfl aA) | (apply cH; first | exact bR rfl gb rfl aA | exact bN rfl gb rfl aA) | (apply cD; exact bU rfl rfl aA) | (apply aP; exact aO rfl rfl (by omega) (by omega) aA) | (apply dE; exact cW rfl (by (simp only [bld, dB, bY, Value.cells, List.take_succ_cons, List.take_zero, List.drop_succ_cons, List.drop_zero, List.cons_append, List.nil_append, List.length_cons, List.length_nil, List.getElem?_cons_zero, List.getElem?_cons_succ, Option.map_some, List.append_nil, Nat.reduceAdd, Nat.reduceMul, Nat.zero_add, Nat.reduceLeDiff, and_self, if_true, List.toList_toArray, Nat.le_refl, Nat.zero_mul, Nat.one_mul]; first | done | rfl)) aA)); first | (exact rfl; exact rfl) | exact rfl) | (apply bC) | (apply aG) | (apply bD) | (apply bP) | (apply bK) | (apply aH (t := 12); refine JL_o (by apply bA; exact aR hs) rfl rfl ?_; rintro _ _ ⟨b12, rfl, hb12, hs, hE⟩) | (apply aH (t := 13); refine JL_o (by apply bA; exact aR hs) rfl rfl ?_; rintro _ _ ⟨b13, rfl, hb13, hs, hE⟩) | (apply bI; refine JL_u (by apply bB; exact aY hs rfl rfl rfl) rfl ?_; rintro _ _ ⟨hs, hF⟩) | (apply aT; first | refine bH rfl ob ?_ | refine bM rfl gb ?_) | (apply cZ; (refine dD (id := 6) [0, 1, 3, 7, 7, 23, 63, 127, 7, 511, 1023, 2047, 4095, 8191, 8191, 24575, 65535, 131071, 262143, 524287, 1048575, 1048575, 3145727, 8388607, 1048575, 33554431, 67108863] [(0, 0), (1, 0), (2, 0), (3, 0), (4, 0), (5, 0), (6, 0), (7, 0), (8, 0), (9, 1), (10, 0), (11, 0), (12, 0), (13, 0), (14, 0), (15, 0), (16, 1), (17, 0), (18, 0), (19, 0), (20, 0), (21, 0), (22, 0), (24, 0), (23, 1), (25, 0), (26, 0)] [] hs eQ (by kernel_rfl) (by kernel_rfl) (by kernel_rfl) (by kernel_rfl) (by kernel_rfl) ?_)) | (refine cX (fun W hs => ?_)) | (refine eB rfl rfl gb rfl ?_) | (refine eC rfl rfl gb rfl ?_) | (refine dJ rfl rfl (fun hq => ?_) (fun hq => ?_); (fail_if_success (exact absurd (by clear hq; first | assumption | omega) (not_not_intro hq))); rotate_left; (fail_if_success (exact absurd (by clear hq; first | assumption | omega) hq)); rotate_left) | (apply dL))
          all_goals refine ih (k + 1) _ _ ⟨hs.sel [3] (by decide), hlt, fun j2 hj2 => ?_⟩ (by omega) zss
          all_goals
            by_cases e : j2 = k
            · rw [e, hst]; rfl
            · exact hall j2 (by omega)
  · have hf : iE N ((k0 : Int) + 1) row plus = true := uJ (fun j hj => hall j (by omega))
    rw [hf]
    repeat' (first | (apply aU) | ((apply aK); (first | (apply aQ; exact aJ rfl aA) | (apply aF; exact aC rfl aA) | (apply aL; exact aM rfl rfl rfl aA)); first | (exact rfl; exact rfl) | exact rfl) | (apply bC) | (apply aG) | (apply cK; refine cY rfl ?_) | (apply aT; refine bL rfl ob ?_))
    refine aZ Tryz.func120 rfl (.tmp rfl .nil) ⟨rfl, hs.frm.ext⟩
end Go.Eng
end
section
namespace Go.Eng
open Go.Proofs
set_option linter.unusedSimpArgs false
set_option linter.unusedVariables false
def oI (N : List NM) (E : List Ent) (i : Nat) : Bool :=
  if (N.getD i n0).1 then eF (N.getD i n0).2.1 && (decide (lH E (N.getD i n0).2.1 = ((i : Int) + 1, true)) && (iE N ((i : Int) + 1) (N.getD i n0).2.2.1 true && iE N ((i : Int) + 1) (N.getD i n0).2.2.2 false))
  else decide ((N.getD i n0).2.1.length + (N.getD i n0).2.2.1.length + (N.getD i n0).2.2.2.length = 0)
def iD (N : List NM) : Nat := (N.filter (fun x => x.1)).length
def uP (N : List NM) (E : List Ent) : Bool := decide (N.length ≠ 0) && (isM N N.length && (isM N 1 && (decide ((dT N 1).2.1.length = 0) && dF E)))
def eG (N : List NM) (E : List Ent) : Bool := uP N E && ((List.range N.length).all (oI N E) && decide (iD N = (allF E).length))
def errG (N : List NM) (E : List Ent) : Int := if eG N E then 0 else 220
theorem hM {N : List NM} {E : List Ent} (h : eG N E = true) : errG N E = 0 := if_pos h
theorem jZ {N : List NM} {E : List Ent} (h : eG N E = false) : errG N E = 220 := if_neg (by rw [h]; decide)
theorem lT {N : List NM} {E : List Ent} (h : uP N E = false) : errG N E = 220 := jZ (by unfold eG; rw [h]; rfl)
theorem kO {N : List NM} {E : List Ent} {k : Nat} (hk : k < N.length) (h : oI N E k = false) : errG N E = 220 := jZ (by
  unfold eG
  rw [show (List.range N.length).all (oI N E) = false from List.all_eq_false.2 ⟨k, List.mem_range.2 hk, by rw [h]; decide⟩]
  simp)
abbrev szN (N : List NM) : Prop := ∀ x ∈ N, x.2.1.length ≤ 1000000 ∧ x.2.2.1.length ≤ 1000000 ∧ x.2.2.2.length ≤ 1000000
attribute [local irreducible] Hold J JL JD JX JXat OpR OpG Ret RetV Is Blk Row
set_option maxRecDepth 100000
set_option maxHeartbeats 2000000
theorem dP (w : World) (a a2 : Option Addr) (n c n2 c2 : Nat) (N : List NM) (E : List Ent) (h : Sl jA All w a n c N) (hE0 : Sl dEnt All w a2 n2 c2 E) (hn2 : n2 ≤ 1048576) (hz : szN N) :
    Ret Tryz.prog 46 #[.agg #[.slice a n c, .slice a2 n2 c2]] w fun v w' => v = .int .i64 (errG N E) ∧ Ext w w' := by
  refine cJ (l := [_]) Tryz.func46 rfl Tryz.ntmps46 (by simp) ?_
  have hs := St.init w
  have hl := h.len
  have hNo := sU h
  obtain ⟨rs, hr, hm⟩ := Sl.raw (D := mX) h
  have hmx : n ≤ 9223372036854775807 := by have h3 := h.le; have h4 := h.cap; unfold maxLen at h4; omega
  have hni : inK .i64 (n : Int) := by unfold inK; simp only [IntKind.min, IntKind.max, IntKind.bits, IntKind.signed]; omega
  have h1i : inK .i64 (1 : Int) := by unfold inK; simp only [IntKind.min, IntKind.max, IntKind.bits, IntKind.signed]; omega
  obtain ⟨ib, his⟩ : ∃ ib, isM N n = ib := ⟨_, rfl⟩
  obtain ⟨i1, his1⟩ : ∃ ib, isM N 1 = ib := ⟨_, rfl⟩
  have hhd : uP N E = (decide (n ≠ 0) && (ib && (i1 && (decide ((dT N 1).2.1.length = 0) && dF E)))) := by unfold uP; rw [hl, his, his1]
  by_cases hn0 : n = 0
  · have hn0' : (n : Int) = 0 := by omega
    rw [lT (by rw [hhd, decide_eq_false (by omega)]; rfl)]
    repeat' (first | (apply aU) | ((apply aK); (first | (apply aX; first | exact aW hs rfl rfl aA | exact aI hs rfl aA) | (apply aQ; exact aJ rfl aA) | (apply aF; exact aC rfl aA) | (apply aS; exact aN rfl rfl aA) | (apply aL; exact aM rfl rfl rfl aA) | (apply cH; exact bR rfl gb rfl aA) | (apply bO; exact bZ rfl aA)); first | (exact rfl; exact rfl) | exact rfl) | (apply bC) | (apply aG) | (apply aH (t := 1); refine JL_o (by apply cA; exact bE hs rfl) rfl rfl ?_; rintro _ _ ⟨b1, rfl, hb1, hs, hE⟩) | (apply cM; (refine fB rfl gb rfl ?_)) | (apply aT; refine bQ rfl gb ?_))
    refine aZ Tryz.func46 rfl (.tmp rfl .nil) ⟨rfl, hs.frm.ext⟩
  have hn0' : ¬ (n : Int) = 0 := by omega
  rw [decide_eq_true hn0, Bool.true_and] at hhd
  obtain ⟨p, o, rfl⟩ := hr.sl.addr (by omega)
  cases ib with
  | false =>
    rw [lT (by rw [hhd]; rfl)]
    repeat' (first | ((apply bV 105; refine bX rfl gb (by exact aB fI rfl (is_r _ (some ⟨p, o, none⟩) a2 n c n2 c2 N n (h.st hs) hni)) rfl rfl ?_; rintro _ _ ⟨rfl, hE⟩; rw [his]; have hs := hs.ext hE; (try simp only [zcc] at hs))) | (apply aU) | ((first | (apply aK) | (apply bS; exact rfl; exact gb)); (first | (apply aX; first | exact aW hs rfl rfl aA | exact aI hs rfl aA) | (apply aQ; exact aJ rfl aA) | (apply aF; exact aC rfl aA) | (apply aS; exact aN rfl rfl aA) | (apply aL; exact aM rfl rfl rfl aA) | (apply cF; exact cG rfl aA) | (apply cH; first | exact bR rfl gb rfl aA | exact bN rfl gb rfl aA) | (apply bO; exact bZ rfl aA)); first | (exact rfl; exact rfl) | exact rfl) | (apply bC) | (apply aG) | (apply aH (t := 1); refine JL_o (by apply cA; exact bE hs rfl) rfl rfl ?_; rintro _ _ ⟨b1, rfl, hb1, hs, hE⟩) | (apply cM; (refine fB rfl gb rfl ?_)) | (apply aT; refine bQ rfl gb ?_))
    refine aZ Tryz.func46 rfl (.tmp rfl .nil) ⟨rfl, hs.frm.ext⟩
  | true =>
  cases i1 with
  | false =>
    rw [lT (by rw [hhd]; rfl)]
    repeat' (first | ((apply bV 105; refine bX rfl gb (by exact aB fI rfl (is_r _ (some ⟨p, o, none⟩) a2 n c n2 c2 N n (h.st hs) hni)) rfl rfl ?_; rintro _ _ ⟨rfl, hE⟩; rw [his]; have hs := hs.ext hE; (try simp only [zcc] at hs))) | ((apply bV 105; refine bX rfl gb (by exact aB fI rfl (is_r _ (some ⟨p, o, none⟩) a2 n c n2 c2 N 1 (h.st hs) h1i)) rfl rfl ?_; rintro _ _ ⟨rfl, hE⟩; rw [his1]; have hs := hs.ext hE; (try simp only [zcc] at hs))) | (apply aU) | ((first | (apply aK) | (apply bS; exact rfl; exact gb)); (first | (apply aX; first | exact aW hs rfl rfl aA | exact aI hs rfl aA) | (apply aQ; exact aJ rfl aA) | (apply aF; exact aC rfl aA) | (apply aS; exact aN rfl rfl aA) | (apply aL; exact aM rfl rfl rfl aA) | (apply cF; exact cG rfl aA) | (apply cH; first | exact bR rfl gb rfl aA | exact bN rfl gb rfl aA) | (apply bO; exact bZ rfl aA)); first | (exact rfl; exact rfl) | exact rfl) | (apply bC) | (apply aG) | (apply aH (t := 1); refine JL_o (by apply cA; exact bE hs rfl) rfl rfl ?_; rintro _ _ ⟨b1, rfl, hb1, hs, hE⟩) | (apply cM; (refine fB rfl gb rfl ?_)) | (apply aT; refine bQ rfl gb ?_))
    refine aZ Tryz.func46 rfl (.tmp rfl .nil) ⟨rfl, hs.frm.ext⟩
  | true =>
  have hx0 : N[0]? = some (N[0]'(by omega)) := List.getElem?_eq_getElem (by omega)
  obtain ⟨x0, hxd0⟩ : ∃ x, x = N[0]'(by omega) := ⟨_, rfl⟩
  rw [← hxd0] at hx0
  obtain ⟨r0, hr0, g1, g2, g3, g4⟩ := hm.get hx0
  have m01 : Sl dId All w r0.2.1.1 r0.2.1.2.1 r0.2.1.2.2 x0.2.1 := g2
  have hn1 : dT N 1 = x0 := dM (k := 0) hx0
  have hln0 := m01.len
  rw [hn1] at hhd
  by_cases ht0 : x0.2.1.length = 0
  rotate_left
  · rw [lT (by rw [hhd, decide_eq_false ht0]; rfl)]
    have ht0' : (r0.2.1.2.1 : Int) > 0 := by omega
    repeat' (first | ((apply bV 105; refine bX rfl gb (by exact aB fI rfl (is_r _ (some ⟨p, o, none⟩) a2 n c n2 c2 N n (h.st hs) hni)) rfl rfl ?_; rintro _ _ ⟨rfl, hE⟩; rw [his]; have hs := hs.ext hE; (try simp only [zcc] at hs))) | ((apply bV 105; refine bX rfl gb (by exact aB fI rfl (is_r _ (some ⟨p, o, none⟩) a2 n c n2 c2 N 1 (h.st hs) h1i)) rfl rfl ?_; rintro _ _ ⟨rfl, hE⟩; rw [his1]; have hs := hs.ext hE; (try simp only [zcc] at hs))) | (apply aU) | ((first | (apply aK) | (apply bS; exact rfl; exact gb)); (first | (apply aX; first | exact aW hs rfl rfl aA | exact aI hs rfl aA | exact cL (i := 0) (j := 1) (hr.st hs) hr0 rfl rfl rfl aA) | (apply aQ; exact aJ rfl aA) | (apply aF; exact aC rfl aA) | (apply aS; first | exact aN rfl rfl aA | exact bJ rfl rfl aA) | (apply aL; exact aM rfl rfl rfl aA) | (apply cF; exact cG rfl aA) | (apply cH; first | exact bR rfl gb rfl aA | exact bN rfl gb rfl aA) | (apply bO; exact bZ rfl aA) | (apply aP; exact aO rfl rfl (by omega) (by omega) aA)); first | (exact rfl; exact rfl) | exact rfl) | (apply bC) | (apply aG) | (apply aH (t := 1); refine JL_o (by apply cA; exact bE hs rfl) rfl rfl ?_; rintro _ _ ⟨b1, rfl, hb1, hs, hE⟩) | (apply cM; (refine fB rfl gb rfl ?_)) | (apply aT; refine bQ rfl gb ?_))
    refine aZ Tryz.func46 rfl (.tmp rfl .nil) ⟨rfl, hs.frm.ext⟩
  have ht0' : ¬ (r0.2.1.2.1 : Int) > 0 := by omega
  rw [decide_eq_true ht0] at hhd
  cases hce : dF E with
  | false =>
    rw [lT (by rw [hhd, hce]; rfl)]
    repeat' (first | ((apply bV 105; refine bX rfl gb (by exact aB fI rfl (is_r _ (some ⟨p, o, none⟩) a2 n c n2 c2 N n (h.st hs) hni)) rfl rfl ?_; rintro _ _ ⟨rfl, hE⟩; rw [his]; have hs := hs.ext hE; (try simp only [zcc] at hs))) | ((apply bV 105; refine bX rfl gb (by exact aB fI rfl (is_r _ (some ⟨p, o, none⟩) a2 n c n2 c2 N 1 (h.st hs) h1i)) rfl rfl ?_; rintro _ _ ⟨rfl, hE⟩; rw [his1]; have hs := hs.ext hE; (try simp only [zcc] at hs))) | ((apply bV 118; refine bX rfl gb (by exact aB mJ rfl (fK _ a2 n2 c2 E (hE0.st hs) hn2)) rfl rfl ?_; rintro _ _ ⟨rfl, hE⟩; rw [hce]; have hs := hs.ext hE; (try simp only [zcc] at hs))) | (apply aU) | ((first | (apply aK) | (apply bS; exact rfl; exact gb)); (first | (apply aX; first | exact aW hs rfl rfl aA | exact aI hs rfl aA | exact cL (i := 0) (j := 1) (hr.st hs) hr0 rfl rfl rfl aA) | (apply aQ; exact aJ rfl aA) | (apply aF; exact aC rfl aA) | (apply aS; first | exact aN rfl rfl aA | exact bJ rfl rfl aA) | (apply aL; exact aM rfl rfl rfl aA) | (apply cF; exact cG rfl aA) | (apply cH; exact bN rfl gb rfl aA) | (apply bO; exact bZ rfl aA) | (apply aP; exact aO rfl rfl (by omega) (by omega) aA)); first | (exact rfl; exact rfl) | exact rfl) | (apply bC) | (apply aG) | (apply aH (t := 1); refine JL_o (by apply cA; exact bE hs rfl) rfl rfl ?_; rintro _ _ ⟨b1, rfl, hb1, hs, hE⟩) | (apply aT; refine bQ rfl gb ?_))
    refine aZ Tryz.func46 rfl (.tmp rfl .nil) ⟨rfl, hs.frm.ext⟩
  | true =>
  rw [hce] at hhd
  have hhd : uP N E = true := hhd
  repeat' (first | ((apply bV 105; refine bX rfl gb (by exact aB fI rfl (is_r _ (some ⟨p, o, none⟩) a2 n c n2 c2 N n (h.st hs) hni)) rfl rfl ?_; rintro _ _ ⟨rfl, hE⟩; rw [his]; have hs := hs.ext hE; (try simp only [zcc] at hs))) | ((apply bV 105; refine bX rfl gb (by exact aB fI rfl (is_r _ (some ⟨p, o, none⟩) a2 n c n2 c2 N 1 (h.st hs) h1i)) rfl rfl ?_; rintro _ _ ⟨rfl, hE⟩; rw [his1]; have hs := hs.ext hE; (try simp only [zcc] at hs))) | ((apply bV 118; refine bX rfl gb (by exact aB mJ rfl (fK _ a2 n2 c2 E (hE0.st hs) hn2)) rfl rfl ?_; rintro _ _ ⟨rfl, hE⟩; rw [hce]; have hs := hs.ext hE; (try simp only [zcc] at hs))) | (apply aU) | ((first | (apply aK) | (apply bS; exact rfl; exact gb)); (first | (apply aX; first | exact aW hs rfl rfl aA | exact aI hs rfl aA | exact cL (i := 0) (j := 1) (hr.st hs) hr0 rfl rfl rfl aA) | (apply aQ; exact aJ rfl aA) | (apply aF; exact aC rfl aA) | (apply aS; first | exact aN rfl rfl aA | exact bJ rfl rfl aA) | (apply aL; exact aM rfl rfl rfl aA) | (apply cF; exact cG rfl aA) | (apply cH; exact bN rfl gb rfl aA) | (apply bO; exact bZ rfl aA) | (apply aP; exact aO rfl rfl (by omega) (by omega) aA)); first | (exact rfl; exact rfl) | exact rfl) | (apply bC) | (apply aG) | (apply bD) | (apply bK) | (apply aH (t := 1); refine JL_o (by apply cA; exact bE hs rfl) rfl rfl ?_; rintro _ _ ⟨b1, rfl, hb1, hs, hE⟩) | (apply aT; refine bM rfl gb ?_))
  refine dK (α := Nat) [(1, _), (41, _), (42, _)] (fun k => [(4, .int .i64 (iD (N.take k))), (43, .int .i64 k)]) (fun k w' => St w NoF w' [Blk b1 (.cells #[.slice (some ⟨p, o, none⟩) n c, .slice a2 n2 c2] 57 (0, 0))] ∧ k ≤ n ∧ ∀ j, j < k → oI N E j = true) (fun k => n - k) 0 ⟨hs, Nat.zero_le _, fun j hj => absurd hj (Nat.not_lt_zero _)⟩ zss ?_
  rintro k w2 ⟨hs1, hk, hall⟩ ih
  have hs : St w NoF w2 [_] := hs1
  by_cases hlt : k < n
  · have hv : N[k]? = some (N[k]'(by omega)) := List.getElem?_eq_getElem (by omega)
    obtain ⟨x, hxd⟩ : ∃ x, x = N[k]'(by omega) := ⟨_, rfl⟩
    rw [← hxd] at hv
    have hxm := List.mem_of_getElem? hv
    obtain ⟨z1, z2, z3⟩ := hz x hxm
    obtain ⟨r, hrx, e1, e2, e3, e4⟩ := hm.get hv
    have e1 : r.1 = x.1 := e1
    have m1 : Sl dId All w r.2.1.1 r.2.1.2.1 r.2.1.2.2 x.2.1 := e2
    have m2 : Sl dStp All w r.2.2.1.1 r.2.2.1.2.1 r.2.2.1.2.2 x.2.2.1 := e3
    have m3 : Sl dStp All w r.2.2.2.1 r.2.2.2.2.1 r.2.2.2.2.2 x.2.2.2 := e4
    have l1 := m1.len
    have l2 := m2.len
    have l3 := m3.len
    have hnb : oI N E k = if x.1 then eF x.2.1 && (decide (lH E x.2.1 = ((k : Int) + 1, true)) && (iE N ((k : Int) + 1) x.2.2.1 true && iE N ((k : Int) + 1) x.2.2.2 false)) else decide (x.2.1.length + x.2.2.1.length + x.2.2.2.length = 0) := by unfold oI; rw [dR hv]
    have hmu : iD (N.take (k + 1)) = iD (N.take k) + if x.1 then 1 else 0 := by
      unfold iD
      rw [jY _ hv, List.length_append]
      cases x.1 <;> rfl
    have hmul : iD (N.take k) ≤ k := by unfold iD; exact Nat.le_trans (List.length_filter_le _ _) (by rw [List.length_take]; omega)
    rw [← e1] at hnb hmu
    obtain ⟨xb, hxb⟩ : ∃ b, r.1 = b := ⟨_, rfl⟩
    rw [hxb] at hnb hmu
    cases xb with
    | false =>
      have hxn : (!r.1) = true := by rw [hxb]; rfl
      rw [if_neg (by decide)] at hnb hmu
      by_cases hs0 : x.2.1.length + x.2.2.1.length + x.2.2.2.length = 0
      · have hs0' : ¬ (r.2.1.2.1 : Int) + r.2.2.1.2.1 + r.2.2.2.2.1 > 0 := by omega
        repeat' (first | (apply aU) | ((apply aK); (first | (apply aX; first | exact bF (i := k) (hr.st hs) hrx rfl rfl aA | exact aW hs rfl rfl aA | exact aI hs rfl aA) | (apply aQ; exact aJ rfl aA) | (apply aF; exact aC rfl aA) | (apply aS; exact aN rfl rfl aA) | (apply cO; exact bT rfl rfl (by omega) (by first | (simp only [Int.reduceAdd]; exact rfl) | exact rfl) aA) | (apply aL; exact aM rfl rfl rfl aA) | (apply cF; exact cG rfl aA) | (apply bO; exact bZ rfl aA) | (apply aP; exact aO rfl rfl (by omega) (by omega) aA)); first | (exact rfl; exact rfl) | exact rfl) | (apply bC) | (apply aG) | (apply bD) | (apply cK; refine cY rfl ?_) | (apply bK) | (apply aH (t := 6); refine JL_o (by apply bA; exact aR hs) rfl rfl ?_; rintro _ _ ⟨b6, rfl, hb6, hs, hE⟩) | (apply bI; refine JL_u (by apply bB; exact aY hs rfl rfl rfl) rfl ?_; rintro _ _ ⟨hs, hF⟩) | (apply aT; first | refine bH rfl ob ?_ | refine bL rfl ob ?_ | refine bQ rfl gb ?_))
        refine ih (k + 1) _ _ ⟨hs.sel [1] (by decide), hlt, fun j hj => ?_⟩ (by omega) (by rw [hmu]; repeat' (first | exact trivial | exact rfl | apply And.intro))
        by_cases e : j = k
        · rw [e, hnb, decide_eq_true hs0]
        · exact hall j (by omega)
      · have hs0' : (r.2.1.2.1 : Int) + r.2.2.1.2.1 + r.2.2.2.2.1 > 0 := by omega
        rw [kO (by omega) (hnb.trans (decide_eq_false hs0))]
        repeat' (first | (apply aU) | ((apply aK); (first | (apply aX; first | exact bF (i := k) (hr.st hs) hrx rfl rfl aA | exact aW hs rfl rfl aA | exact aI hs rfl aA) | (apply aQ; exact aJ rfl aA) | (apply aF; exact aC rfl aA) | (apply aS; exact aN rfl rfl aA) | (apply cO; exact bT rfl rfl (by omega) (by first | (simp only [Int.reduceAdd]; exact rfl) | exact rfl) aA) | (apply aL; exact aM rfl rfl rfl aA) | (apply cF; exact cG rfl aA) | (apply bO; exact bZ rfl aA) | (apply aP; exact aO rfl rfl (by omega) (by omega) aA)); first | (exact rfl; exact rfl) | exact rfl) | (apply bC) | (apply aG) | (apply bD) | (apply bK) | (apply aH (t := 6); refine JL_o (by apply bA; exact aR hs) rfl rfl ?_; rintro _ _ ⟨b6, rfl, hb6, hs, hE⟩) | (apply bI; refine JL_u (by apply bB; exact aY hs rfl rfl rfl) rfl ?_; rintro _ _ ⟨hs, hF⟩) | (apply aT; first | refine bH rfl ob ?_ | refine bQ rfl gb ?_))
        refine aZ Tryz.func46 rfl (.tmp rfl .nil) ⟨rfl, hs.frm.ext⟩
    | true =>
      have hxn : (!r.1) = false := by rw [hxb]; rfl
      rw [if_pos rfl] at hnb hmu
      obtain ⟨f1, f2, hf⟩ : ∃ f1 f2, lH E x.2.1 = (f1, f2) := ⟨_, _, rfl⟩
      obtain ⟨tb, htb⟩ : ∃ b, eF x.2.1 = b := ⟨_, rfl⟩
      obtain ⟨sp, hsp⟩ : ∃ b, iE N ((k : Int) + 1) x.2.2.1 true = b := ⟨_, rfl⟩
      obtain ⟨sl, hsl⟩ : ∃ b, iE N ((k : Int) + 1) x.2.2.2 false = b := ⟨_, rfl⟩
      rw [hf, htb, hsp, hsl] at hnb
      cases tb with
      | false =>
        rw [kO (k := k) (by omega) (by rw [hnb]; rfl)]
        repeat' (first | ((apply aV 119; refine JL_o (by exact aB tM rfl (oD _ a2 n2 c2 E r.2.1.1 r.2.1.2.1 r.2.1.2.2 x.2.1 (hE0.st hs) hn2 (m1.st hs))) rfl rfl ?_; rintro _ _ ⟨rfl, hE⟩; rw [hf]; have hs := hs.ext hE; (try simp only [zcc] at hs))) | ((apply aV 59; refine JL_o (by exact aB en59 rfl (dU _ r.2.1.1 r.2.1.2.1 r.2.1.2.2 x.2.1 (m1.st hs))) rfl rfl ?_; rintro _ _ ⟨rfl, hE⟩; rw [htb]; have hs := hs.ext hE; (try simp only [zcc] at hs))) | (apply aU) | ((apply aK); (first | (apply aX; first | exact bF (i := k) (hr.st hs) hrx rfl rfl aA | exact aW hs rfl rfl aA | exact aI hs rfl aA) | (apply aQ; exact aJ rfl aA) | (apply aF; exact aC rfl aA) | (apply aS; exact aN rfl rfl aA) | (apply cO; exact bT rfl rfl (by omega) (by first | (simp only [Int.reduceAdd]; exact rfl) | exact rfl) aA) | (apply aL; exact aM rfl rfl rfl aA) | (apply cF; exact cG rfl aA) | (apply cH; exact bR rfl gb rfl aA) | (apply cD; exact bU rfl rfl aA) | (apply aP; exact aO rfl rfl (by omega) (by omega) aA)); first | (exact rfl; exact rfl) | exact rfl) | (apply bC) | (apply aG) | (apply bD) | (apply bK) | (apply aH (t := 6); refine JL_o (by apply bA; exact aR hs) rfl rfl ?_; rintro _ _ ⟨b6, rfl, hb6, hs, hE⟩) | (apply bI; refine JL_u (by apply bB; exact aY hs rfl rfl rfl) rfl ?_; rintro _ _ ⟨hs, hF⟩) | (apply cM; (refine fB rfl gb rfl ?_)) | (apply aT; first | refine bH rfl ob ?_ | refine bQ rfl gb ?_ | refine bM rfl gb ?_))
        refine aZ Tryz.func46 rfl (.tmp rfl .nil) ⟨rfl, hs.frm.ext⟩
      | true =>
      cases f2 with
      | false =>
        rw [kO (k := k) (by omega) (by rw [hnb]; rw [decide_eq_false (fun e => by cases e)]; rfl)]
        repeat' (first | ((apply aV 119; refine JL_o (by exact aB tM rfl (oD _ a2 n2 c2 E r.2.1.1 r.2.1.2.1 r.2.1.2.2 x.2.1 (hE0.st hs) hn2 (m1.st hs))) rfl rfl ?_; rintro _ _ ⟨rfl, hE⟩; rw [hf]; have hs := hs.ext hE; (try simp only [zcc] at hs))) | ((apply aV 59; refine JL_o (by exact aB en59 rfl (dU _ r.2.1.1 r.2.1.2.1 r.2.1.2.2 x.2.1 (m1.st hs))) rfl rfl ?_; rintro _ _ ⟨rfl, hE⟩; rw [htb]; have hs := hs.ext hE; (try simp only [zcc] at hs))) | (apply aU) | ((first | (apply aK) | (apply bS; exact rfl; exact gb)); (first | (apply aX; first | exact bF (i := k) (hr.st hs) hrx rfl rfl aA | exact aW hs rfl rfl aA | exact aI hs rfl aA) | (apply aQ; exact aJ rfl aA) | (apply aF; exact aC rfl aA) | (apply aS; exact aN rfl rfl aA) | (apply cO; exact bT rfl rfl (by omega) (by first | (simp only [Int.reduceAdd]; exact rfl) | exact rfl) aA) | (apply aL; exact aM rfl rfl rfl aA) | (apply cF; exact cG rfl aA) | (apply cH; first | exact bR rfl gb rfl aA | exact bN rfl gb rfl aA) | (apply cD; exact bU rfl rfl aA) | (apply aP; exact aO rfl rfl (by omega) (by omega) aA)); first | (exact rfl; exact rfl) | exact rfl) | (apply bC) | (apply aG) | (apply bD) | (apply bK) | (apply aH (t := 6); refine JL_o (by apply bA; exact aR hs) rfl rfl ?_; rintro _ _ ⟨b6, rfl, hb6, hs, hE⟩) | (apply bI; refine JL_u (by apply bB; exact aY hs rfl rfl rfl) rfl ?_; rintro _ _ ⟨hs, hF⟩) | (apply cM; (refine fB rfl gb rfl ?_)) | (apply aT; first | refine bH rfl ob ?_ | refine bQ rfl gb ?_ | refine bM rfl gb ?_))
        refine aZ Tryz.func46 rfl (.tmp rfl .nil) ⟨rfl, hs.frm.ext⟩
      | true =>
      by_cases hf1 : f1 = (k : Int) + 1
      rotate_left
      · have hf1' : f1 ≠ (k : Int) + 1 := hf1
        rw [kO (k := k) (by omega) (by rw [hnb]; rw [decide_eq_false (fun e => hf1 (congrArg Prod.fst e))]; rfl)]
        repeat' (first | ((apply aV 119; refine JL_o (by exact aB tM rfl (oD _ a2 n2 c2 E r.2.1.1 r.2.1.2.1 r.2.1.2.2 x.2.1 (hE0.st hs) hn2 (m1.st hs))) rfl rfl ?_; rintro _ _ ⟨rfl, hE⟩; rw [hf]; have hs := hs.ext hE; (try simp only [zcc] at hs))) | ((apply aV 59; refine JL_o (by exact aB en59 rfl (dU _ r.2.1.1 r.2.1.2.1 r.2.1.2.2 x.2.1 (m1.st hs))) rfl rfl ?_; rintro _ _ ⟨rfl, hE⟩; rw [htb]; have hs := hs.ext hE; (try simp only [zcc] at hs))) | (apply aU) | ((first | (apply aK) | (apply bS; exact rfl; exact gb)); (first | (apply aX; first | exact bF (i := k) (hr.st hs) hrx rfl rfl aA | exact aW hs rfl rfl aA | exact aI hs rfl aA) | (apply aQ; exact aJ rfl aA) | (apply aF; exact aC rfl aA) | (apply aS; exact aN rfl rfl aA) | (apply cO; exact bT rfl rfl (by omega) (by first | (simp only [Int.reduceAdd]; exact rfl) | exact rfl) aA) | (apply aL; exact aM rfl rfl rfl aA) | (apply cF; exact cG rfl aA) | (apply cH; first | exact bR rfl gb rfl aA | exact bN rfl gb rfl aA) | (apply cD; exact bU rfl rfl aA) | (apply aP; exact aO rfl rfl (by omega) (by omega) aA)); first | (exact rfl; exact rfl) | exact rfl) | (apply bC) | (apply aG) | (apply bD) | (apply bK) | (apply aH (t := 6); refine JL_o (by apply bA; exact aR hs) rfl rfl ?_; rintro _ _ ⟨b6, rfl, hb6, hs, hE⟩) | (apply bI; refine JL_u (by apply bB; exact aY hs rfl rfl rfl) rfl ?_; rintro _ _ ⟨hs, hF⟩) | (apply cM; (refine fB rfl gb rfl ?_)) | (apply aT; first | refine bH rfl ob ?_ | refine bQ rfl gb ?_ | refine bM rfl gb ?_))
        refine aZ Tryz.func46 rfl (.tmp rfl .nil) ⟨rfl, hs.frm.ext⟩
      have hf1' : ¬ f1 ≠ (k : Int) + 1 := fun e => e hf1
      rw [hf1, decide_eq_true rfl] at hnb
      cases sp with
      | false =>
        rw [kO (k := k) (by omega) (by rw [hnb]; rfl)]
        repeat' (first | ((apply aV 119; refine JL_o (by exact aB tM rfl (oD _ a2 n2 c2 E r.2.1.1 r.2.1.2.1 r.2.1.2.2 x.2.1 (hE0.st hs) hn2 (m1.st hs))) rfl rfl ?_; rintro _ _ ⟨rfl, hE⟩; rw [hf]; have hs := hs.ext hE; (try simp only [zcc] at hs))) | ((apply aV 59; refine JL_o (by exact aB en59 rfl (dU _ r.2.1.1 r.2.1.2.1 r.2.1.2.2 x.2.1 (m1.st hs))) rfl rfl ?_; rintro _ _ ⟨rfl, hE⟩; rw [htb]; have hs := hs.ext hE; (try simp only [zcc] at hs))) | ((apply bV 120; refine bX rfl gb (by exact aB zS rfl (mY _ (some ⟨p, o, none⟩) a2 r.2.2.1.1 n c n2 c2 r.2.2.1.2.1 r.2.2.1.2.2 N k x.2.2.1 true (h.st hs) hlt (m2.st hs))) rfl rfl ?_; rintro _ _ ⟨rfl, hE⟩; rw [hsp]; have hs := hs.ext hE; (try simp only [zcc] at hs))) | (apply aU) | ((first | (apply aK) | (apply bS; exact rfl; exact gb)); (first | (apply aX; first | exact bF (i := k) (hr.st hs) hrx rfl rfl aA | exact aW hs rfl rfl aA | exact aI hs rfl aA) | (apply aQ; exact aJ rfl aA) | (apply aF; exact aC rfl aA) | (apply aS; exact aN rfl rfl aA) | (apply cO; exact bT rfl rfl (by omega) (by first | (simp only [Int.reduceAdd]; exact rfl) | exact rfl) aA) | (apply aL; exact aM rfl rfl rfl aA) | (apply cF; exact cG rfl aA) | (apply cH; first | exact bR rfl gb rfl aA | exact bN rfl gb rfl aA) | (apply cD; exact bU rfl rfl aA) | (apply aP; exact aO rfl rfl (by omega) (by omega) aA)); first | (exact rfl; exact rfl) | exact rfl) | (apply bC) | (apply aG) | (apply bD) | (apply bK) | (apply aH (t := 6); refine JL_o (by apply bA; exact aR hs) rfl rfl ?_; rintro _ _ ⟨b6, rfl, hb6, hs, hE⟩) | (apply bI; refine JL_u (by apply bB; exact aY hs rfl rfl rfl) rfl ?_; rintro _ _ ⟨hs, hF⟩) | (apply cM; (refine fB rfl gb rfl ?_)) | (apply aT; first | refine bH rfl ob ?_ | refine bQ rfl gb ?_ | refine bM rfl gb ?_))
        refine aZ Tryz.func46 rfl (.tmp rfl .nil) ⟨rfl, hs.frm.ext⟩
      | true =>
      cases sl with
      | false =>
        rw [kO (k := k) (by omega) (by rw [hnb]; rfl)]
        repeat' (first | ((apply aV 119; refine JL_o (by exact aB tM rfl (oD _ a2 n2 c2 E r.2.1.1 r.2.1.2.1 r.2.1.2.2 x.2.1 (hE0.st hs) hn2 (m1.st hs))) rfl rfl ?_; rintro _ _ ⟨rfl, hE⟩; rw [hf]; have hs := hs.ext hE; (try simp only [zcc] at hs))) | ((apply aV 59; refine JL_o (by exact aB en59 rfl (dU _ r.2.1.1 r.2.1.2.1 r.2.1.2.2 x.2.1 (m1.st hs))) rfl rfl ?_; rintro _ _ ⟨rfl, hE⟩; rw [htb]; have hs := hs.ext hE; (try simp only [zcc] at hs))) | ((apply bV 120; refine bX rfl gb (by exact aB zS rfl (mY _ (some ⟨p, o, none⟩) a2 r.2.2.1.1 n c n2 c2 r.2.2.1.2.1 r.2.2.1.2.2 N k x.2.2.1 true (h.st hs) hlt (m2.st hs))) rfl rfl ?_; rintro _ _ ⟨rfl, hE⟩; rw [hsp]; have hs := hs.ext hE; (try simp only [zcc] at hs))) | ((apply bV 120; refine bX rfl gb (by exact aB zS rfl (mY _ (some ⟨p, o, none⟩) a2 r.2.2.2.1 n c n2 c2 r.2.2.2.2.1 r.2.2.2.2.2 N k x.2.2.2 false (h.st hs) hlt (m3.st hs))) rfl rfl ?_; rintro _ _ ⟨rfl, hE⟩; rw [hsl]; have hs := hs.ext hE; (try simp only [zcc] at hs))) | (apply aU) | ((first | (apply aK) | (apply bS; exact rfl; exact gb)); (first | (apply aX; first | exact bF (i := k) (hr.st hs) hrx rfl rfl aA | exact aW hs rfl rfl aA | exact aI hs rfl aA) | (apply aQ; exact aJ rfl aA) | (apply aF; exact aC rfl aA) | (apply aS; exact aN rfl rfl aA) | (apply cO; exact bT rfl rfl (by omega) (by first | (simp only [Int.reduceAdd]; exact rfl) | exact rfl) aA) | (apply aL; exact aM rfl rfl rfl aA) | (apply cF; exact cG rfl aA) | (apply cH; exact bN rfl gb rfl aA) | (apply cD; exact bU rfl rfl aA) | (apply aP; exact aO rfl rfl (by omega) (by omega) aA)); first | (exact rfl; exact rfl) | exact rfl) | (apply bC) | (apply aG) | (apply bD) | (apply bK) | (apply aH (t := 6); refine JL_o (by apply bA; exact aR hs) rfl rfl ?_; rintro _ _ ⟨b6, rfl, hb6, hs, hE⟩) | (apply bI; refine JL_u (by apply bB; exact aY hs rfl rfl rfl) rfl ?_; rintro _ _ ⟨hs, hF⟩) | (apply aT; first | refine bH rfl ob ?_ | refine bQ rfl gb ?_ | refine bM rfl gb ?_))
        refine aZ Tryz.func46 rfl (.tmp rfl .nil) ⟨rfl, hs.frm.ext⟩
      | true =>
        repeat' (first | ((apply aV 119; refine JL_o (by exact aB tM rfl (oD _ a2 n2 c2 E r.2.1.1 r.2.1.2.1 r.2.1.2.2 x.2.1 (hE0.st hs) hn2 (m1.st hs))) rfl rfl ?_; rintro _ _ ⟨rfl, hE⟩; rw [hf]; have hs := hs.ext hE; (try simp only [zcc] at hs))) | ((apply aV 59; refine JL_o (by exact aB en59 rfl (dU _ r.2.1.1 r.2.1.2.1 r.2.1.2.2 x.2.1 (m1.st hs))) rfl rfl ?_; rintro _ _ ⟨rfl, hE⟩; rw [htb]; have hs := hs.ext hE; (try simp only [zcc] at hs))) | ((apply bV 120; refine bX rfl gb (by exact aB zS rfl (mY _ (some ⟨p, o, none⟩) a2 r.2.2.1.1 n c n2 c2 r.2.2.1.2.1 r.2.2.1.2.2 N k x.2.2.1 true (h.st hs) hlt (m2.st hs))) rfl rfl ?_; rintro _ _ ⟨rfl, hE⟩; rw [hsp]; have hs := hs.ext hE; (try simp only [zcc] at hs))) | ((apply bV 120; refine bX rfl gb (by exact aB zS rfl (mY _ (some ⟨p, o, none⟩) a2 r.2.2.2.1 n c n2 c2 r.2.2.2.2.1 r.2.2.2.2.2 N k x.2.2.2 false (h.st hs) hlt (m3.st hs))) rfl rfl ?_; rintro _ _ ⟨rfl, hE⟩; rw [hsl]; have hs := hs.ext hE; (try simp only [zcc] at hs))) | (apply aU) | ((first | (apply aK) | (apply bS; exact rfl; exact gb)); (first | (apply aX; first | exact bF (i := k) (hr.st hs) hrx rfl rfl aA | exact aW hs rfl rfl aA | exact aI hs rfl aA) | (apply aQ; exact aJ rfl aA) | (apply aF; exact aC rfl aA) | (apply aS; exact aN rfl rfl aA) | (apply cO; exact bT rfl rfl (by omega) (by first | (simp only [Int.reduceAdd]; exact rfl) | exact rfl) aA) | (apply aL; exact aM rfl rfl rfl aA) | (apply cF; exact cG rfl aA) | (apply cH; exact bN rfl gb rfl aA) | (apply cD; exact bU rfl rfl aA) | (apply aP; exact aO rfl rfl (by omega) (by omega) aA)); first | (exact rfl; exact rfl) | exact rfl) | (apply bC) | (apply aG) | (apply bD) | (apply bP) | (apply bK) | (apply aH (t := 6); refine JL_o (by apply bA; exact aR hs) rfl rfl ?_; rintro _ _ ⟨b6, rfl, hb6, hs, hE⟩) | (apply bI; refine JL_u (by apply bB; exact aY hs rfl rfl rfl) rfl ?_; rintro _ _ ⟨hs, hF⟩) | (apply aT; first | refine bH rfl ob ?_ | refine bM rfl gb ?_))
        refine ih (k + 1) _ _ ⟨hs.sel [1] (by decide), hlt, fun j hj => ?_⟩ (by omega) (by rw [hmu]; repeat' (first | exact trivial | exact rfl | apply And.intro))
        by_cases e : j = k
        · rw [e, hnb]; rfl
        · exact hall j (by omega)
  · have hkn : k = n := by omega
    subst hkn
    rw [List.take_of_length_le (by omega)] at *
    have hall2 : (List.range N.length).all (oI N E) = true := List.all_eq_true.2 fun j hj => hall j (by have := List.mem_range.1 hj; omega)
    by_cases hmm : iD N = (allF E).length
    · have hmm' : ¬ ((iD N : Nat) : Int) ≠ ((allF E).length : Nat) := fun e => e (by omega)
      rw [hM (by unfold eG; rw [hhd, hall2, decide_eq_true hmm]; rfl)]
      repeat' (first | ((apply aV 121; refine JL_o (by exact aB en121 rfl (many_r _ a2 n2 c2 E (hE0.st hs) hn2)) rfl rfl ?_; rintro _ _ ⟨rfl, hE⟩; have hs := hs.ext hE; (try simp only [zcc] at hs))) | (apply aU) | ((apply aK); (first | (apply aX; first | exact aW hs rfl rfl aA | exact aI hs rfl aA) | (apply aQ; exact aJ rfl aA) | (apply aF; exact aC rfl aA) | (apply aS; exact aN rfl rfl aA) | (apply aL; exact aM rfl rfl rfl aA)); first | (exact rfl; exact rfl) | exact rfl) | (apply bC) | (apply aG) | (apply cK; refine cY rfl ?_) | (apply bK) | (apply aT; refine bL rfl ob ?_))
      refine aZ Tryz.func46 rfl (.tmp rfl .nil) ⟨rfl, hs.frm.ext⟩
    · have hmm' : ((iD N : Nat) : Int) ≠ ((allF E).length : Nat) := fun e => hmm (by omega)
      rw [jZ (by unfold eG; rw [decide_eq_false hmm]; simp)]
      repeat' (first | ((apply aV 121; refine JL_o (by exact aB en121 rfl (many_r _ a2 n2 c2 E (hE0.st hs) hn2)) rfl rfl ?_; rintro _ _ ⟨rfl, hE⟩; have hs := hs.ext hE; (try simp only [zcc] at hs))) | (apply aU) | ((apply aK); (first | (apply aX; first | exact aW hs rfl rfl aA | exact aI hs rfl aA) | (apply aQ; exact aJ rfl aA) | (apply aF; exact aC rfl aA) | (apply aS; exact aN rfl rfl aA) | (apply aL; exact aM rfl rfl rfl aA)); first | (exact rfl; exact rfl) | exact rfl) | (apply bC) | (apply aG) | (apply cK; refine cY rfl ?_) | (apply aT; first | refine bH rfl ob ?_ | refine bL rfl ob ?_))
      refine aZ Tryz.func46 rfl (.tmp rfl .nil) ⟨rfl, hs.frm.ext⟩
def typC (N : List NM) (E : List Ent) (x : Int) : Int := if eG N E then (if isM N x then 0 else 2) else 220
def typL (N : List NM) (E : List Ent) (x : Int) : List Int := if typC N E x = 0 then (dT N x).2.1 else []
theorem gK (w : World) (a a2 : Option Addr) (n c n2 c2 : Nat) (N : List NM) (E : List Ent) (x : Int) (h : Sl jA All w a n c N) (hE0 : Sl dEnt All w a2 n2 c2 E) (hn2 : n2 ≤ 1048576) (hz : szN N) (hx : inK .i64 x) :
    Ret Tryz.prog 44 #[.agg #[.slice a n c, .slice a2 n2 c2], .int .i64 x] w fun v w' => ∃ a', v = .tuple #[.slice a' (typL N E x).length (typL N E x).length, .int .i64 (typC N E x)] ∧ Fresh w w' [RowU a' (typL N E x).length (typL N E x).length (typL N E x)] := by
  refine cJ (l := [_, _]) Tryz.func44 rfl Tryz.ntmps44 (by simp) ?_
  have hs := St.init w
  have hl := h.len
  obtain ⟨rs, hr, hm⟩ := Sl.raw (D := mX) h
  cases hc : eG N E with
  | false =>
    have he := jZ hc
    have e1 : typC N E x = 220 := by unfold typC; rw [hc]; rfl
    have e2 : typL N E x = [] := by unfold typL; rw [e1]; rfl
    rw [e1, e2]
    repeat' (first | ((apply aV 46; refine JL_o (by exact aB en46 rfl (dP _ a a2 n c n2 c2 N E (h.st hs) (hE0.st hs) hn2 hz)) rfl rfl ?_; rintro _ _ ⟨rfl, hE⟩; rw [he]; have hs := hs.ext hE; (try simp only [zcc] at hs))) | (apply aU) | ((apply aK); (first | (apply aX; first | exact aW hs rfl rfl aA | exact aI hs rfl aA) | (apply aQ; exact aJ rfl aA) | (apply aF; exact aC rfl aA) | (apply aL; exact aM rfl rfl rfl aA)); first | (exact rfl; exact rfl) | exact rfl) | (apply bC) | (apply aG) | (apply aH (t := 2); refine JL_o (by apply cA; exact bE hs rfl) rfl rfl ?_; rintro _ _ ⟨b2, rfl, hb2, hs, hE⟩) | (apply aT; refine bH rfl ob ?_))
    have hs := hs.nilRow 29 1
    refine aZ Tryz.func44 rfl (.tmp rfl (.tmp rfl .nil)) ⟨none, rfl, hs.out (.cons_cons _ (List.nil_sublist _))⟩
  | true =>
    have he := hM hc
    cases hi : isM N x with
    | false =>
      have e1 : typC N E x = 2 := by unfold typC; rw [hc, hi]; rfl
      have e2 : typL N E x = [] := by unfold typL; rw [e1]; rfl
      rw [e1, e2]
      repeat' (first | ((apply aV 46; refine JL_o (by exact aB en46 rfl (dP _ a a2 n c n2 c2 N E (h.st hs) (hE0.st hs) hn2 hz)) rfl rfl ?_; rintro _ _ ⟨rfl, hE⟩; rw [he]; have hs := hs.ext hE; (try simp only [zcc] at hs))) | ((apply aV 105; refine JL_o (by exact aB fI rfl (is_r _ a a2 n c n2 c2 N x (h.st hs) hx)) rfl rfl ?_; rintro _ _ ⟨rfl, hE⟩; rw [hi]; have hs := hs.ext hE; (try simp only [zcc] at hs))) | (apply aU) | ((apply aK); (first | (apply aX; first | exact aW hs rfl rfl aA | exact aI hs rfl aA) | (apply aQ; exact aJ rfl aA) | (apply aF; exact aC rfl aA) | (apply aL; exact aM rfl rfl rfl aA) | (apply cF; exact cG rfl aA)); first | (exact rfl; exact rfl) | exact rfl) | (apply bC) | (apply aG) | (apply bK) | (apply aH (t := 2); refine JL_o (by apply cA; exact bE hs rfl) rfl rfl ?_; rintro _ _ ⟨b2, rfl, hb2, hs, hE⟩) | (apply aT; first | refine bL rfl ob ?_ | refine bQ rfl gb ?_))
      have hs := hs.nilRow 29 1
      refine aZ Tryz.func44 rfl (.tmp rfl (.tmp rfl .nil)) ⟨none, rfl, hs.out (.cons_cons _ (List.nil_sublist _))⟩
    | true =>
      have e1 : typC N E x = 0 := by unfold typC; rw [hc, hi]; rfl
      obtain ⟨j, y, hj, hy, _⟩ := isM_true.1 hi
      have e2 : typL N E x = y.2.1 := by unfold typL; rw [e1, if_pos rfl, hj, dM hy]
      rw [e1, e2]
      have hjl := (List.getElem?_eq_some_iff.1 hy).1
      obtain ⟨r, hr0, _, f2, _⟩ := hm.get hy
      have m1 : Sl dId All w r.2.1.1 r.2.1.2.1 r.2.1.2.2 y.2.1 := f2
      have hrj : rs[(x - 1).toNat]? = some r := by rw [hj, show ((j : Int) + 1 - 1).toNat = j by omega]; exact hr0
      have hb : 1 ≤ x ∧ x ≤ n := by omega
      have hyl := m1.len
      have hy6 := (hz y (List.mem_of_getElem? hy)).1
      have hmx : n ≤ 9223372036854775807 := by have h3 := h.le; have h4 := h.cap; unfold maxLen at h4; omega
      obtain ⟨p, o, rfl⟩ := hr.sl.addr (by omega)
      repeat' (first | ((apply aV 46; refine JL_o (by exact aB en46 rfl (dP _ (some ⟨p, o, none⟩) a2 n c n2 c2 N E (h.st hs) (hE0.st hs) hn2 hz)) rfl rfl ?_; rintro _ _ ⟨rfl, hE⟩; rw [he]; have hs := hs.ext hE; (try simp only [zcc] at hs))) | ((apply aV 105; refine JL_o (by exact aB fI rfl (is_r _ (some ⟨p, o, none⟩) a2 n c n2 c2 N x (h.st hs) hx)) rfl rfl ?_; rintro _ _ ⟨rfl, hE⟩; rw [hi]; have hs := hs.ext hE; (try simp only [zcc] at hs))) | ((apply aV 114; refine JL_o (by exact aB zT rfl (lU _ r.2.1.1 r.2.1.2.1 r.2.1.2.2 y.2.1 (m1.st hs) (by omega))) rfl rfl ?_; rintro _ _ ⟨a5, rfl, hf⟩; have hs := hs.fresh hf; (try simp only [zcc] at hs))) | (apply aU) | ((apply aK); (first | (apply aX; first | exact aW hs rfl rfl aA | exact aI hs rfl aA | exact cL (i := (x - 1).toNat) (j := 1) (hr.st hs) hrj rfl rfl rfl aA) | (apply aQ; exact aJ rfl aA) | (apply aF; exact aC rfl aA) | (apply aS; first | exact aN rfl rfl aA | exact bJ rfl rfl aA) | (apply eW; exact dS rfl rfl (by omega) aA) | (apply aL; exact aM rfl rfl rfl aA) | (apply cF; exact cG rfl aA) | (apply aP; exact aO rfl rfl (by omega) (by omega) aA)); first | (exact rfl; exact rfl) | exact rfl) | (apply bC) | (apply aG) | (apply bK) | (apply aH (t := 2); refine JL_o (by apply cA; exact bE hs rfl) rfl rfl ?_; rintro _ _ ⟨b2, rfl, hb2, hs, hE⟩) | (apply aT; first | refine bL rfl ob ?_ | refine bM rfl gb ?_))
      rw [hyl]
      refine aZ Tryz.func44 rfl (.tmp rfl (.tmp rfl .nil)) ⟨a5, rfl, hs.out (.cons_cons _ (List.nil_sublist _))⟩
end Go.Eng
end
section
namespace Go.Eng
open Go.Proofs
set_option linter.unusedSimpArgs false
set_option linter.unusedVariables false
theorem nN (xs vs : List Value) (off i : Nat) (h : off + vs.length ≤ xs.length) : (bY xs off vs)[i]? = if i < off then xs[i]? else if i < off + vs.length then vs[i - off]? else xs[i]? := by
  unfold bY
  have e1 : (xs.take off).length = off := by rw [List.length_take]; omega
  by_cases c1 : i < off
  · rw [if_pos c1, List.append_assoc, List.getElem?_append_left (by omega), List.getElem?_take, if_pos c1]
  · rw [if_neg c1]
    by_cases c2 : i < off + vs.length
    · rw [if_pos c2, List.append_assoc, List.getElem?_append_right (by omega), e1, List.getElem?_append_left (by omega)]
    · rw [if_neg c2, List.getElem?_append_right (by rw [List.length_append]; omega), List.getElem?_drop, List.length_append, e1]
      congr 1; omega
theorem pQ {α : Type} {d : Ty α} {enc : α → List Value} {ok : α → Prop} [Q : FlatTy d enc ok] (rs : List α) (k j : Nat) (r r' : α) (vs : List Value) (hr : rs[k]? = some r) (hj : j + vs.length ≤ d.sz) (h : enc r' = bY (enc r) j vs) : bY (encL enc rs) (k * d.sz + j) vs = encL enc (rs.set k r') := by
  have hk := (List.getElem?_eq_some_iff.1 hr).1
  have hle : (encL enc rs).length = rs.length * d.sz := fL (d := d) rs
  have hkz : k * d.sz + d.sz ≤ rs.length * d.sz := by rw [← Nat.succ_mul]; exact Nat.mul_le_mul_right _ hk
  rw [lC (d := d) rs k r' hk]
  have l1 : (enc r).length = d.sz := Q.len r
  have l2 : (enc r').length = d.sz := Q.len r'
  apply List.ext_getElem?
  intro i
  rw [nN _ _ _ _ (by omega), nN _ _ _ _ (by omega), l2]
  by_cases c1 : i < k * d.sz
  · rw [if_pos (by omega), if_pos c1]
  · rw [if_neg c1]
    by_cases c2 : i < k * d.sz + d.sz
    · obtain ⟨q, rfl⟩ : ∃ q, i = k * d.sz + q := ⟨i - k * d.sz, by omega⟩
      have hg := fM (d := d) rs k q r hr (by omega)
      rw [if_pos c2, h, Nat.add_sub_cancel_left, nN _ _ _ _ (by omega), hg]
      by_cases c3 : q < j
      · rw [if_pos c3, if_pos (by omega)]
      · rw [if_neg c3, if_neg (by omega)]
        by_cases c4 : q < j + vs.length
        · rw [if_pos c4, if_pos (by omega)]; congr 1; omega
        · rw [if_neg c4, if_neg (by omega)]
    · rw [if_neg c2, if_neg (by omega), if_neg (by omega)]
abbrev RowI (a : Option Addr) (n c : Nat) (xs : List Int) : HP := Row a n c 3 1 (xs.map (.int .i64))
theorem yX (xs : List Int) (x : Int) : List.map (Value.int .i64) xs ++ [.int .i64 x] = List.map (Value.int .i64) (xs ++ [x]) := by rw [List.map_append]; rfl
def uN (N : List NM) (k : Nat) : List Nat := (List.range k).filter (fun j => (N.getD j n0).1)
def gE (N : List NM) : List Int := (uN N N.length).map (fun (k : Nat) => (k : Int) + 1)
def rE (N : List NM) (E : List Ent) : List Int := if eG N E then gE N else []
theorem uE (N : List NM) (k : Nat) : uN N (k + 1) = uN N k ++ if (N.getD k n0).1 then [k] else [] := by
  unfold uN
  rw [List.range_succ, List.filter_append]
  congr 1
  by_cases c : (N.getD k n0).1 = true
  · rw [if_pos c, List.filter_cons, if_pos c]; rfl
  · rw [if_neg c, List.filter_cons, if_neg c]; rfl
theorem uN_pre {N : List NM} {k n : Nat} (h : k ≤ n) : ∃ l, uN N n = uN N k ++ l := by
  induction n with
  | zero => obtain rfl : k = 0 := by omega
            exact ⟨[], (List.append_nil _).symm⟩
  | succ n ih =>
    by_cases e : k = n + 1
    · subst e; exact ⟨[], (List.append_nil _).symm⟩
    · obtain ⟨l, hl⟩ := ih (by omega)
      rw [uE, hl, List.append_assoc]
      exact ⟨_, rfl⟩
theorem uN_len (N : List NM) (k : Nat) : (uN N k).length ≤ k := by unfold uN; have := List.length_filter_le (fun j => (N.getD j n0).1) (List.range k); rw [List.length_range] at this; exact this
def nodeX (N : List NM) (rs : List RNd) (i : Nat) (vals : List Value) (cx : List HP) : Prop := ∃ k r, (uN N N.length)[i]? = some k ∧ rs[k]? = some r ∧ vals = [.int .i64 ((k : Int) + 1), .agg (cNd r).toArray] ∧ cx = []
attribute [local irreducible] Hold J JL JD JX JXat OpR OpG Ret RetV Is Blk Row
set_option maxRecDepth 100000
set_option maxHeartbeats 1000000
theorem gused_r (w : World) (a a2 : Option Addr) (n c n2 c2 : Nat) :
    Ret Tryz.prog 124 #[.agg #[.slice a n c, .slice a2 n2 c2]] w fun v w' => ∃ b1, v = .func (.func 186) #[] #[ptr b1] ∧ Fresh w w' [Blk b1 (.cells #[.slice a n c, .slice a2 n2 c2] 57 (0, 0))] := by
  refine cJ (l := [_]) Tryz.func124 rfl Tryz.ntmps124 (by simp) ?_
  have hs := St.init w
  repeat' (first | (apply aU) | ((apply aK); (first | (apply aF; exact aC rfl aA) | (apply eX; exact gS rfl aA)); first | (exact rfl; exact rfl) | exact rfl) | (apply bC) | (apply aG) | (apply aH (t := 1); refine JL_o (by apply cA; exact bE hs rfl) rfl rfl ?_; rintro _ _ ⟨b1, rfl, hb1, hs, hE⟩))
  refine aZ Tryz.func124 rfl (.tmp rfl .nil) ⟨b1, rfl, hs.out (List.Sublist.refl _)⟩
theorem xR (R : Nat → Prop) (wr : World) (b1 : Nat) (a a2 : Option Addr) (n c n2 c2 : Nat) (N : List NM) (rs : List RNd) (hr : Sl dRNd R wr a n c rs) (hl : N.length = n) (hm : ∀ (k : Nat) (r : RNd) (x : NM), rs[k]? = some r → N[k]? = some x → r.1 = x.1) (hb1 : wr.heap[b1]? = some (.cells #[.slice a n c, .slice a2 n2 c2] 57 (0, 0))) :
    aAy Tryz.prog (.func (.func 186) #[] #[ptr b1]) (uN N N.length).length (nodeX N rs) wr (fun k => (R k ∧ k < wr.heap.size) ∨ k = b1) := by
  intro y C Cs w c0 hy hK h0 hheld
  refine RetV.closure (avs := [_]) (cap := [_]) en186 ?_
  refine cJ (l := [_, _]) Tryz.func186 rfl Tryz.ntmps186 (by simp) ?_
  have hs := hheld.st
  have hlr := hr.len
  have hmx : n ≤ 9223372036854775807 := by have h1 := hr.le; have h2 := hr.cap; unfold maxLen at h2; omega
  have hb1w := (hK b1 (.inr rfl)).1.trans hb1
  have hb1F := (hK b1 (.inr rfl)).2
  have hsl : ∀ {W : World} {L : List HP}, St w (Star c0).foot W L → Sl dRNd All W a n c rs := fun {W L} hs => (hr.loc (fun k hk hlt => hs.keepK (hK k (.inl ⟨hk, hlt⟩)).1 (hK k (.inl ⟨hk, hlt⟩)).2 hlt)).weak (fun _ _ => trivial)
  repeat' (first | (apply aU) | ((apply aK); (first | (apply aX; first | exact bW (v := .slice a n c) (hs.keep_cell (cQ (off := 0) hb1w rfl) hb1F) rfl aA) | (apply aQ; exact aJ rfl aA) | (apply aS; exact aN rfl rfl aA) | (apply bO; exact bZ rfl aA)); first | (exact rfl; exact rfl) | exact rfl) | (apply bC) | (apply aG) | (apply bD))
  refine dK (α := Nat × List HP) [(0, _), (1, _), (7, _)] (fun g => [(8, .int .i64 g.1)]) (fun g w' => St w (Star c0).foot w' g.2 ∧ C (uN N g.1).length g.2 ∧ g.1 ≤ n) (fun g => n - g.1) (0, c0) ⟨hs, h0, Nat.zero_le _⟩ zss ?_
  rintro ⟨k, ck⟩ w' ⟨hs, hC, hk⟩ ih
  dsimp only at hs hC hk ih ⊢
  by_cases hlt : k < n
  · obtain ⟨x, hx⟩ : ∃ x, N[k]? = some x := ⟨_, List.getElem?_eq_getElem (by omega)⟩
    obtain ⟨r, hrk⟩ : ∃ r, rs[k]? = some r := ⟨_, List.getElem?_eq_getElem (by omega)⟩
    have e1 := hm k r x hrk hx
    have hus := uE N k
    rw [dR hx, ← e1] at hus
    obtain ⟨p2, o2, rfl⟩ := (hsl hs).sl.addr (by omega)
    obtain ⟨xb, hxb⟩ : ∃ b, r.1 = b := ⟨_, rfl⟩
    cases xb with
    | true =>
      rw [hxb, if_pos rfl] at hus
      have hul := congrArg List.length hus
      rw [List.length_append] at hul
      obtain ⟨l, hpre⟩ := uN_pre (N := N) (k := k + 1) (n := N.length) (by omega)
      have hge : (uN N N.length)[(uN N k).length]? = some k := by
        rw [hpre, hus, List.append_assoc, List.getElem?_append_right (Nat.le_refl _), Nat.sub_self]; rfl
      have hlt2 := (List.getElem?_eq_some_iff.1 hge).1
      repeat' (first | ((apply cM; have hs2 : St w (Star c0).foot _ ((ck ++ []) ++ [Blk b4 _]) := (by simpa using hs.perm (List.perm_append_comm (l₁ := [_]) (l₂ := ck))); refine bX (t := 23) rfl gb (cE rfl rfl (hy _ _ [_, _] _ ck hlt2 hC ⟨k, r, hge, hrk, rfl, rfl⟩ hs2.held hs2.frm)) rfl rfl ?_; rintro _ _ ⟨c', ⟨rfl, hC'⟩ | ⟨rfl, hC'⟩, ht⟩ <;> have hs : St w (Star c0).foot _ c' := (hs2.take ht).sub (List.sublist_append_left _ _))) | (apply aU) | ((first | (apply aK) | (apply bS; exact rfl; exact gb)); (first | (apply aX; first | exact aW hs rfl rfl aA | exact aI hs rfl aA | exact bW (v := .slice (some ⟨p2, o2, none⟩) n c) (hs.keep_cell (cQ (off := 0) hb1w rfl) hb1F) rfl aA | exact bF (i := k) (hsl hs) hrk rfl rfl aA) | (apply aQ; exact aJ rfl aA) | (apply aF; exact aC rfl aA) | (apply aS; exact aN rfl rfl aA) | (apply cO; exact bT rfl rfl (by omega) (by first | (simp only [Int.reduceAdd]; exact rfl) | exact rfl) aA) | (apply aL; exact aM rfl rfl rfl aA) | (apply cF; exact cG rfl aA) | (apply cH; exact bR rfl gb rfl aA) | (apply aP; exact aO rfl rfl (by omega) (by omega) aA)); first | (exact rfl; exact rfl) | exact rfl) | (apply bC) | (apply aG) | (apply bD) | (apply bP) | (apply bK) | (apply aH (t := 4); refine JL_o (by apply bA; exact aR hs) rfl rfl ?_; rintro _ _ ⟨b4, rfl, hb4, hs, hE⟩) | (apply bI; refine JL_u (by apply bB; exact aY hs rfl rfl rfl) rfl ?_; rintro _ _ ⟨hs, hF⟩) | (apply aT; first | refine bH rfl ob ?_ | refine bQ rfl gb ?_ | refine bM rfl gb ?_))
      · refine ih (k + 1, c') _ _ ⟨hs, by dsimp only; rw [hul]; exact hC', hlt⟩ (by dsimp only; omega) zss
      · refine aZ Tryz.func186 rfl .nil ⟨c', .inr hC', St.turned (M := []) (by simpa using hs)⟩
    | false =>
      rw [hxb, if_neg (by decide), List.append_nil] at hus
      repeat' (first | (apply aU) | ((apply aK); (first | (apply aX; first | exact aW hs rfl rfl aA | exact aI hs rfl aA | exact bW (v := .slice (some ⟨p2, o2, none⟩) n c) (hs.keep_cell (cQ (off := 0) hb1w rfl) hb1F) rfl aA | exact bF (i := k) (hsl hs) hrk rfl rfl aA) | (apply aQ; exact aJ rfl aA) | (apply aF; exact aC rfl aA) | (apply aS; exact aN rfl rfl aA) | (apply cO; exact bT rfl rfl (by omega) (by first | (simp only [Int.reduceAdd]; exact rfl) | exact rfl) aA) | (apply aL; exact aM rfl rfl rfl aA) | (apply cH; exact bN rfl gb rfl aA) | (apply aP; exact aO rfl rfl (by omega) (by omega) aA)); first | (exact rfl; exact rfl) | exact rfl) | (apply bC) | (apply aG) | (apply bD) | (apply bP) | (apply bK) | (apply aH (t := 4); refine JL_o (by apply bA; exact aR hs) rfl rfl ?_; rintro _ _ ⟨b4, rfl, hb4, hs, hE⟩) | (apply bI; refine JL_u (by apply bB; exact aY hs rfl rfl rfl) rfl ?_; rintro _ _ ⟨hs, hF⟩) | (apply cM; (refine fB rfl gb rfl ?_)) | (apply aT; first | refine bH rfl ob ?_ | refine bM rfl gb ?_))
      refine ih (k + 1, ck) _ _ ⟨hs.sub (List.sublist_cons_self _ _), by dsimp only; rw [hus]; exact hC, hlt⟩ (by dsimp only; omega) zss
  · have hkn : k = N.length := by omega
    rw [hkn] at hC
    repeat' (first | (apply aU) | ((apply aK); (apply aL; exact aM rfl rfl rfl aA); first | (exact rfl; exact rfl) | exact rfl) | (apply bC) | (apply aG) | (apply cK; refine cY rfl ?_) | (apply aT; refine bL rfl ob ?_))
    refine fT Tryz.func186 rfl .nil ⟨ck, .inl hC, St.turned (M := []) (by simpa using hs)⟩
theorem kH (w : World) (a a2 : Option Addr) (n c n2 c2 : Nat) (N : List NM) (E : List Ent) (h : Sl jA All w a n c N) (hE0 : Sl dEnt All w a2 n2 c2 E) (hn : n ≤ 1000000) (hn2 : n2 ≤ 1048576) (hz : szN N) :
    Ret Tryz.prog 49 #[.agg #[.slice a n c, .slice a2 n2 c2]] w fun v w' => ∃ a' c', v = .slice a' (rE N E).length c' ∧ Fresh w w' [RowI a' (rE N E).length c' (rE N E)] := by
  refine cJ (l := [_]) Tryz.func49 rfl Tryz.ntmps49 (by simp) ?_
  have hs := St.init w
  have hl := h.len
  obtain ⟨rs, hr, hm⟩ := Sl.raw (D := mX) h
  cases hc : eG N E with
  | false =>
    have he := jZ hc
    have e2 : rE N E = [] := by unfold rE; rw [hc]; rfl
    rw [e2]
    repeat' (first | ((apply aV 46; refine JL_o (by exact aB en46 rfl (dP _ a a2 n c n2 c2 N E (h.st hs) (hE0.st hs) hn2 hz)) rfl rfl ?_; rintro _ _ ⟨rfl, hE⟩; rw [he]; have hs := hs.ext hE; (try simp only [zcc] at hs))) | (apply aU) | ((apply aK); (first | (apply aX; first | exact aW hs rfl rfl aA | exact aI hs rfl aA) | (apply aF; exact aC rfl aA) | (apply aL; exact aM rfl rfl rfl aA)); first | (exact rfl; exact rfl) | exact rfl) | (apply bC) | (apply aG) | (apply aH (t := 1); refine JL_o (by apply cA; exact bE hs rfl) rfl rfl ?_; rintro _ _ ⟨b1, rfl, hb1, hs, hE⟩) | (apply aT; refine bH rfl ob ?_))
    have hs := hs.nilRow 3 1
    refine aZ Tryz.func49 rfl (.tmp rfl .nil) ⟨none, 0, rfl, hs.out (.cons_cons _ (List.nil_sublist _))⟩
  | true =>
    have he := hM hc
    have e2 : rE N E = gE N := by unfold rE; rw [hc]; rfl
    rw [e2]
    repeat' (first | ((apply aV 46; refine JL_o (by exact aB en46 rfl (dP _ a a2 n c n2 c2 N E (h.st hs) (hE0.st hs) hn2 hz)) rfl rfl ?_; rintro _ _ ⟨rfl, hE⟩; rw [he]; have hs := hs.ext hE; (try simp only [zcc] at hs))) | ((apply aV 124; refine JL_o (by exact aB en124 rfl (gused_r _ a a2 n c n2 c2)) rfl rfl ?_; rintro _ _ ⟨b9, rfl, hf⟩; have hs := hs.fresh hf; (try simp only [zcc] at hs))) | (apply aU) | ((apply aK); (first | (apply aX; first | exact aW hs rfl rfl aA | exact aI hs rfl aA) | (apply aF; exact aC rfl aA) | (apply aL; exact aM rfl rfl rfl aA)); first | (exact rfl; exact rfl) | exact rfl) | (apply bC) | (apply aG) | (apply bD) | (apply bK) | (apply aH (t := 1); refine JL_o (by apply cA; exact bE hs rfl) rfl rfl ?_; rintro _ _ ⟨b1, rfl, hb1, hs, hE⟩) | (apply aH (t := 3); refine JL_o (by apply bA; exact aR hs) rfl rfl ?_; rintro _ _ ⟨b3, rfl, hb3, hs, hE⟩) | (apply aT; refine bL rfl ob ?_))
    have hbt := hs.blk (b := b9)
    have hlt9 := hs.lt (b := b9)
    have hs := hs.nilRow 3 1
    have hs0 : St w NoF _ ([Blk b3 (.cells #[.slice none 0 0] 86 (0, 0)), RowI none 0 0 []] ++ [Blk b9 _, Blk b1 _]) := hs.sel [2, 0, 1, 3] (by decide)
    have hr9 : Sl dRNd (fun k => k < w.heap.size) w a n c rs := hr.foc.weak (fun k hk => Sl.below (d := dRNd) (by decide) hr k hk)
    have hit := xR (fun k => k < w.heap.size) _ b9 a a2 n c n2 c2 N rs (hr9.loc (fun k hk _ => hs0.frm.old k hk id)) hl (fun k r x hrk hx => (hm.2 k r x hrk hx).1) hbt
    have huM := uN_len N N.length
    obtain ⟨U, hU⟩ : ∃ U, U = (uN N N.length).map (fun (k : Nat) => (k : Int) + 1) := ⟨_, rfl⟩
    have hUl : U.length = (uN N N.length).length := by rw [hU, List.length_map]
    have hUL : gE N = U := by rw [hU]; rfl
    rw [hUL]
    refine sM (ps := [10, 11]) hs0 rfl ⟨186, #[ptr b9], rfl, en186⟩ hit
      (fun k A => ∃ a' c', A = [Blk b3 (.cells #[.slice a' k c'] 86 (0, 0)), RowI a' k c' (U.take k)])
      (fun j A => False) ⟨none, 0, rfl⟩ ?_ (by decide) ?_ ?_ ?_ ?_
    · rintro k (⟨hk, hk2⟩ | rfl)
      · exact ⟨rfl, fun hf => by have := hs0.foot0 k hf; omega, hk2⟩
      · exact ⟨rfl, fun hf => hs0.sepA (.head _) hf (gR _ _), hlt9⟩
    · rintro i vals cx ⟨_, _, _, _, rfl, _⟩; rfl
    · rintro l2 D tm k w1 A1 cx vals hD hDl hk ⟨a', c', rfl⟩ ⟨j, r, hj, hrj, rfl, rfl⟩ hh hold
      have hs : St _ _ _ [_, _, _] := hh.st
      have huk : U[k]? = some ((j : Int) + 1) := by rw [hU, List.getElem?_map, hj]; rfl
      have htk : U.take (k + 1) = U.take k ++ [(j : Int) + 1] := by rw [List.take_add_one, huk]; rfl
      repeat' (first | ((refine fG hs (fun w2 hs => ?_))) | ((apply aH (t := 15); refine JL_o (by apply dW; exact gC (xs := (U.take k).map (.int .i64)) (news := [.int .i64 ((j : Int) + 1)]) hs rfl rfl (vK (hs.blk (b := b14)) rfl) fN rfl (by omega) (by unfold maxLen; omega)) rfl rfl ?_; rintro _ _ ⟨a4, c4, rfl, hs, hF, hnil⟩; rw [yX, ← htk] at hs)) | (apply aU) | ((apply aK); (first | (apply aX; first | exact aW hs rfl rfl aA | exact aI hs rfl aA) | (apply aQ; exact aJ rfl aA) | (apply aF; exact aC rfl aA)); first | (exact rfl; exact rfl) | exact rfl) | (apply aG) | (apply bD) | (apply bP) | (apply aH (t := 14); refine JL_o (by apply dA; exact cS hs rfl (by omega) rfl) rfl rfl ?_; rintro _ _ ⟨b14, rfl, hb14, hs, hE⟩) | (apply bI; refine JL_u (by apply bB; exact aY hs rfl rfl rfl) rfl ?_; rintro _ _ ⟨hs, hF⟩))
      have hs : St _ _ _ [_, _, _] := hs.sel [1, 2, 3] (by decide)
      refine kS hs (fun w3 hs => .inl ⟨rfl, _, ⟨a4, c4, rfl⟩, St.turned (M := []) hs⟩)
    · rintro w2 D A2 ⟨a', c', rfl⟩ hs
      have hs : St w NoF _ [_, _, _, _, _] := hs
      rw [← hUl, List.take_length] at hs
      repeat' (first | ((refine pX (mP hs (fun w3 hs => pV Tryz.func49 rfl (.tmp rfl .nil) ⟨a', c', rfl, (hs.sel [1] (by decide)).out (List.Sublist.refl _)⟩)))) | (apply aU) | ((apply aK); (first | (apply aX; first | exact aW hs rfl rfl aA) | (apply aF; exact aC rfl aA)); first | (exact rfl; exact rfl) | exact rfl) | (apply bC) | (apply aG) | (apply bP))
    · rintro w2 D A2 j hf hs
      exact hf.elim
end Go.Eng
end
section
namespace Go.Eng
open Go.Proofs
set_option linter.unusedSimpArgs false
set_option linter.unusedVariables false
abbrev sameE (x y : Ent) : Bool := decide (x.2.2 = y.2.2) && decide (x.2.1 = y.2.1)
theorem sameE_eq {x y : Ent} (hx : x.1 = 1) (hy : y.1 = 1) : sameE x y = decide (x = y) := by
  obtain ⟨xa, xb, xc⟩ := x
  obtain ⟨ya, yb, yc⟩ := y
  dsimp only at hx hy
  subst hx; subst hy
  by_cases h : xb = yb <;> by_cases h2 : xc = yc <;> simp [h, h2]
theorem kD {es : List Ent} {x : Ent} (h : x ∈ allF es) : x.1 = 1 := by
  unfold allF at h
  by_cases hc : dF es = true
  · rw [if_pos hc] at h; exact (wD h).2
  · rw [if_neg hc] at h; cases h
attribute [local irreducible] Hold J JL JD JX JXat OpR OpG Ret RetV Is Blk Row
set_option maxRecDepth 100000
set_option maxHeartbeats 1000000
end Go.Eng
end
section
namespace Go.Eng
open Go.Proofs
set_option linter.unusedSimpArgs false
set_option linter.unusedVariables false
theorem zO {es : List Ent} {t : List Int} (h : ∀ y ∈ es.filter eI, y.2.1 ≠ t) : lH es t = (0, false) := by
  unfold lH
  by_cases hc : dF es = true
  · rw [if_pos hc]
    rcases iN es t with h1 | ⟨q, x, hx, _, h1, h2⟩
    · rw [h1, if_pos (by decide)]
    · exact absurd h2 (h x (List.mem_filter.2 ⟨List.mem_of_getElem? hx, decide_eq_true h1⟩))
  · rw [if_neg hc]
theorem tY {es : List Ent} (h : dF es = true) : allF es = allM es := by unfold allF; rw [if_pos h]
theorem xJ {es : List Ent} (hc : dF es = true) {x : Ent} (hx : x ∈ es.filter eI) : tO es x.2.1 = 0 := by
  obtain ⟨i, h1, _⟩ := sZ hc hx
  unfold tO
  rw [if_pos hc, h1, if_neg (by omega)]
attribute [local irreducible] Hold J JL JD JX JXat OpR OpG Ret RetV Is Blk Row
set_option maxRecDepth 100000
set_option maxHeartbeats 1000000
theorem drop_ok (w : World) (a : Option Addr) (n c : Nat) (es : List Ent) (a2 : Option Addr) (n2 c2 : Nat) (t : List Int) (h : Sl dEnt All w a n c es) (hn : n ≤ 1048576) (h2 : Sl (tInt .u64) All w a2 n2 c2 t) (hd : tO es t = 0) :
    Ret Tryz.prog 106 #[.agg #[.slice a n c], .slice a2 n2 c2] w fun u w' => ∃ (p : Nat) (x : Ent) (rs' : List REnt) (a' : Option Addr) (c' : Nat), (es[p]? = some x ∧ x.1 = 1 ∧ x.2.1 = t) ∧ u = .tuple #[.agg #[.slice a' n c'], .int .i64 0] ∧ Fresh w w' [dN a' n c' rs', Own rs' (es.set p gone)] :=
  (drop_r w a n c es a2 n2 c2 t h hn h2).mono fun u w' hh => by
    rcases hh with ⟨h1, _⟩ | ⟨_, h2⟩
    · exact absurd hd h1
    · exact h2
end Go.Eng
end
section
namespace Go.Eng
open Go.Proofs
set_option linter.unusedSimpArgs false
set_option linter.unusedVariables false
abbrev entAt (N : List NM) (j : Nat) : Ent := (1, (N.getD j n0).2.1, (j : Int) + 1)
def useE (N : List NM) (k : Nat) : List Ent := (uN N k).map (entAt N)
def entsK (N : List NM) (k : Nat) : List Ent := (useE N k).foldl rA []
def fP (N : List NM) : List Ent := entsK N N.length
theorem mem_uN {N : List NM} {k j : Nat} : j ∈ uN N k ↔ j < k ∧ (N.getD j n0).1 = true := by
  unfold uN; rw [List.mem_filter, List.mem_range]
theorem uN_nodup (N : List NM) (k : Nat) : (uN N k).Pairwise (· ≠ ·) := (List.nodup_range (n := k)).sublist List.filter_sublist
theorem kP (N : List NM) : (fP N).Perm (useE N N.length) := by
  have := (mF (useE N N.length) [] List.Pairwise.nil).2
  rw [List.append_nil] at this
  exact this
theorem kA (N : List NM) : kG (fP N) := (mF _ [] List.Pairwise.nil).1
theorem vS (N : List NM) : (uN N N.length).length = iD N := by
  have h : ∀ k, k ≤ N.length → (uN N k).length = ((N.take k).filter (fun x => x.1)).length := by
    intro k
    induction k with
    | zero => intro _; rfl
    | succ k ih =>
      intro hk
      have hx : N[k]? = some (N[k]'(by omega)) := List.getElem?_eq_getElem (by omega)
      rw [uE, dR hx, List.length_append, ih (by omega), jY _ hx, List.length_append]
      cases (N[k]'(by omega)).1 <;> rfl
  have := h N.length (Nat.le_refl _)
  rw [List.take_length] at this
  exact this
theorem iS (N : List NM) : (fP N).length = iD N := by rw [(kP N).length_eq]; unfold useE; rw [List.length_map, vS]
theorem ents_mem {N : List NM} {e : Ent} : e ∈ fP N ↔ ∃ (j : Nat) (x : NM), N[j]? = some x ∧ x.1 = true ∧ e = (1, x.2.1, (j : Int) + 1) := by
  rw [(kP N).mem_iff]
  unfold useE
  rw [List.mem_map]
  constructor
  · rintro ⟨j, hj, rfl⟩
    obtain ⟨h1, h2⟩ := mem_uN.1 hj
    have hx : N[j]? = some (N[j]'h1) := List.getElem?_eq_getElem h1
    rw [dR hx] at h2
    exact ⟨j, _, hx, h2, by rw [entAt, dR hx]⟩
  · rintro ⟨j, x, hx, h1, rfl⟩
    exact ⟨j, mem_uN.2 ⟨(List.getElem?_eq_some_iff.1 hx).1, by rw [dR hx]; exact h1⟩, by rw [entAt, dR hx]⟩
abbrev hasU (t : List Int) (x : NM) : Bool := x.1 && decide (x.2.1 = t)
def tG (N : List NM) (t : List Int) : Nat → Nat → Nat
  | 0, _ => 0
  | f + 1, k => if hasU t (N.getD k n0) then k + 1 else tG N t f (k + 1)
def gY (N : List NM) (t : List Int) : Nat := tG N t N.length 0
theorem jM (N : List NM) (t : List Int) : ∀ f k, (tG N t f k = 0 ∧ ∀ i, k ≤ i → i < k + f → hasU t (N.getD i n0) = false) ∨ ∃ j, k ≤ j ∧ j < k + f ∧ tG N t f k = j + 1 ∧ hasU t (N.getD j n0) = true ∧ ∀ i, k ≤ i → i < j → hasU t (N.getD i n0) = false
  | 0, k => .inl ⟨rfl, fun i h1 h2 => by omega⟩
  | f + 1, k => by
    by_cases c : hasU t (N.getD k n0) = true
    · exact .inr ⟨k, Nat.le_refl _, by omega, by unfold tG; rw [if_pos c], c, fun i h1 h2 => by omega⟩
    · have e : tG N t (f + 1) k = tG N t f (k + 1) := by conv => lhs; unfold tG; rw [if_neg c]
      rw [e]
      have c2 : hasU t (N.getD k n0) = false := by simpa using c
      rcases jM N t f (k + 1) with ⟨h1, h2⟩ | ⟨j, h1, h2, h3, h4, h5⟩
      · refine .inl ⟨h1, fun i a b => ?_⟩
        by_cases e2 : i = k
        · rw [e2]; exact c2
        · exact h2 i (by omega) (by omega)
      · refine .inr ⟨j, by omega, by omega, h3, h4, fun i a b => ?_⟩
        by_cases e2 : i = k
        · rw [e2]; exact c2
        · exact h5 i (by omega) b
theorem hasU_true {t : List Int} {x : NM} : hasU t x = true ↔ x.1 = true ∧ x.2.1 = t := by unfold hasU; rw [Bool.and_eq_true, decide_eq_true_eq]
theorem findN_none {N : List NM} {t : List Int} : gY N t = 0 ↔ ∀ (i : Nat) (x : NM), N[i]? = some x → x.1 = true → x.2.1 ≠ t := by
  constructor
  · intro h i x hx h1 h2
    rcases jM N t N.length 0 with ⟨_, h3⟩ | ⟨j, _, _, h3, _⟩
    · have := h3 i (Nat.zero_le _) (by rw [Nat.zero_add]; exact (List.getElem?_eq_some_iff.1 hx).1)
      rw [dR hx, hasU_true.2 ⟨h1, h2⟩] at this
      cases this
    · unfold gY at h; omega
  · intro h
    rcases jM N t N.length 0 with ⟨h1, _⟩ | ⟨j, _, h2, _, h4, _⟩
    · exact h1
    · have hx : N[j]? = some (N[j]'(by omega)) := List.getElem?_eq_getElem (by omega)
      rw [dR hx] at h4
      obtain ⟨a, b⟩ := hasU_true.1 h4
      exact absurd b (h j _ hx a)
theorem vX {N : List NM} {j : Nat} {x : NM} (hx : N[j]? = some x) (h1 : x.1 = true) (hu : ∀ (i : Nat) (y : NM), N[i]? = some y → y.1 = true → y.2.1 = x.2.1 → i = j) : gY N x.2.1 = j + 1 := by
  rcases jM N x.2.1 N.length 0 with ⟨_, h3⟩ | ⟨q, _, h2, h3, h4, _⟩
  · have := h3 j (Nat.zero_le _) (by rw [Nat.zero_add]; exact (List.getElem?_eq_some_iff.1 hx).1)
    rw [dR hx, hasU_true.2 ⟨h1, rfl⟩] at this
    cases this
  · have hq : N[q]? = some (N[q]'(by omega)) := List.getElem?_eq_getElem (by omega)
    rw [dR hq] at h4
    obtain ⟨a, b⟩ := hasU_true.1 h4
    unfold gY
    rw [h3, hu q _ hq a b]
theorem tF {N : List NM} {t : List Int} (h : gY N t ≠ 0) : ∃ (j : Nat) (x : NM), N[j]? = some x ∧ x.1 = true ∧ x.2.1 = t ∧ gY N t = j + 1 ∧ ∀ (i : Nat) (y : NM), N[i]? = some y → y.1 = true → y.2.1 = t → j ≤ i := by
  rcases jM N t N.length 0 with ⟨h1, _⟩ | ⟨q, _, h2, h3, h4, h5⟩
  · exact absurd h1 h
  · have hq : N[q]? = some (N[q]'(by omega)) := List.getElem?_eq_getElem (by omega)
    rw [dR hq] at h4
    obtain ⟨a, b⟩ := hasU_true.1 h4
    refine ⟨q, _, hq, a, b, h3, fun i y hy c1 c2 => Decidable.by_contra fun hlt => ?_⟩
    have := h5 i (Nat.zero_le _) (by omega)
    rw [dR hy, hasU_true.2 ⟨c1, c2⟩] at this
    cases this
abbrev gX (plus : Bool) (l : List Int) (id : Int) : List Int := if plus then wiT l id else outT l id
def yA (N : List NM) (n : Int) (row : List ST) (plus : Bool) (i : Nat) : Bool :=
  (decide (i = 0) || decide ((row.getD (i - 1) s0).1 < (row.getD i s0).1)) && (isM N (row.getD i s0).2 && ((decide ((row.getD i s0).1 ∈ (dT N n).2.1) != plus) &&
    (decide (((row.getD i s0).1, n) ∈ xP (dT N (row.getD i s0).2) plus) && decide ((dT N (row.getD i s0).2).2.1 = gX plus (dT N n).2.1 (row.getD i s0).1))))
def oX (N : List NM) (n : Int) (row : List ST) (plus : Bool) : Bool := (List.range row.length).all (yA N n row plus)
theorem uI {N : List NM} {n : Int} {row : List ST} {plus : Bool} : oX N n row plus = true ↔ ∀ k, k < row.length → yA N n row plus k = true := by
  unfold oX
  rw [List.all_eq_true]
  exact ⟨fun h k hk => h k (List.mem_range.2 hk), fun h k hk => h k (List.mem_range.1 hk)⟩
theorem wL {N : List NM} {n : Int} {row : List ST} {plus : Bool} : iE N n row plus = true ↔ ∀ k, k < row.length → qA N n row plus k = true := by
  unfold iE
  rw [List.all_eq_true]
  exact ⟨fun h k hk => h k (List.mem_range.2 hk), fun h k hk => h k (List.mem_range.1 hk)⟩
def wX (N : List NM) (i : Nat) : Bool :=
  if (N.getD i n0).1 then eF (N.getD i n0).2.1 && (decide (gY N (N.getD i n0).2.1 = i + 1) && (oX N ((i : Int) + 1) (N.getD i n0).2.2.1 true && oX N ((i : Int) + 1) (N.getD i n0).2.2.2 false))
  else decide ((N.getD i n0).2.1.length + (N.getD i n0).2.2.1.length + (N.getD i n0).2.2.2.length = 0)
def headN (N : List NM) : Bool := decide (N.length ≠ 0) && ((dT N N.length).1 && ((dT N 1).1 && decide ((dT N 1).2.1.length = 0)))
def yW (N : List NM) : Bool := headN N && ((List.range N.length).all (wX N) && decide (iD N ≤ 4000))
abbrev kL (l : List ST) : Prop := l.Pairwise (fun x y => x.1 < y.1)
abbrev mR (N : List NM) (i : Nat) (x : NM) (plus : Bool) (s : ST) : Prop := (s.1 ∈ x.2.1 ↔ plus = false) ∧ ∃ (j : Nat) (y : NM), s.2 = (j : Int) + 1 ∧ N[j]? = some y ∧ y.1 = true ∧ y.2.1 = gX plus x.2.1 s.1 ∧ (s.1, (i : Int) + 1) ∈ xP y plus
structure GR (N : List NM) : Prop where
  last : ∃ x, N[N.length - 1]? = some x ∧ x.1 = true
  first : ∃ x, N[0]? = some x ∧ x.1 = true ∧ x.2.1 = []
  typ : ∀ (i : Nat) (x : NM), N[i]? = some x → x.1 = true → eF x.2.1 = true
  uniq : ∀ (i j : Nat) (x y : NM), N[i]? = some x → N[j]? = some y → x.1 = true → y.1 = true → x.2.1 = y.2.1 → i = j
  un : ∀ (i : Nat) (x : NM), N[i]? = some x → x.1 = false → x = n0
  rise : ∀ (i : Nat) (x : NM), N[i]? = some x → kL x.2.2.1 ∧ kL x.2.2.2
  plus : ∀ (i : Nat) (x : NM), N[i]? = some x → ∀ s ∈ x.2.2.1, mR N i x true s
  less : ∀ (i : Nat) (x : NM), N[i]? = some x → ∀ s ∈ x.2.2.2, mR N i x false s
  many : iD N ≤ 4000
theorem lR {l : List ST} {x : ST} {k : Nat} (h : l[k]? = some x) : l.getD k s0 = x := by rw [List.getD_eq_getElem?_getD, h]; rfl
theorem adjS {l : List ST} (h : ∀ i (hi : i + 1 < l.length), l[i].1 < l[i + 1].1) : kL l := by
  refine List.pairwise_iff_getElem.2 fun i j hi hj hij => ?_
  induction j with
  | zero => omega
  | succ j ih =>
    by_cases e : i = j
    · subst e; exact h i hj
    · exact Int.lt_trans (ih (by omega) (by omega)) (h j hj)
theorem yF {l : List ST} (h : ∀ k, k < l.length → (decide (k = 0) || decide ((l.getD (k - 1) s0).1 < (l.getD k s0).1)) = true) : kL l := adjS fun i hi => by
  have := h (i + 1) hi
  rw [Bool.or_eq_true, decide_eq_true_eq, decide_eq_true_eq] at this
  have h3 := this.resolve_left (by omega)
  rw [Nat.add_sub_cancel, lR (List.getElem?_eq_getElem (by omega)), lR (List.getElem?_eq_getElem hi)] at h3
  exact h3
theorem yT {l : List ST} (h : kL l) {k : Nat} (hk : k < l.length) : (decide (k = 0) || decide ((l.getD (k - 1) s0).1 < (l.getD k s0).1)) = true := by
  by_cases e : k = 0
  · rw [decide_eq_true e]; rfl
  · rw [Bool.or_eq_true, decide_eq_true_eq, decide_eq_true_eq]
    refine .inr ?_
    rw [lR (List.getElem?_eq_getElem (by omega)), lR (List.getElem?_eq_getElem hk)]
    exact List.pairwise_iff_getElem.1 h (k - 1) k (by omega) hk (by omega)
theorem jF {N : List NM} {i : Nat} {x : NM} (hx : N[i]? = some x) {row : List ST} {plus : Bool} : oX N ((i : Int) + 1) row plus = true ↔ kL row ∧ ∀ s ∈ row, mR N i x plus s := by
  rw [uI]
  constructor
  · intro h
    refine ⟨yF fun k hk => ?_, fun s hs => ?_⟩
    · have := h k hk
      unfold yA at this
      exact (Bool.and_eq_true _ _ ▸ this : _ ∧ _).1
    · obtain ⟨k, hk⟩ := List.mem_iff_getElem?.1 hs
      have := h k (List.getElem?_eq_some_iff.1 hk).1
      unfold yA at this
      rw [lR hk, dM hx, Bool.and_eq_true, Bool.and_eq_true, Bool.and_eq_true, Bool.and_eq_true, decide_eq_true_eq, decide_eq_true_eq] at this
      obtain ⟨_, h2, h3, h4, h5⟩ := this
      obtain ⟨j, y, e1, e2, e3⟩ := isM_true.1 h2
      rw [e1, dM e2] at h4 h5
      refine ⟨?_, j, y, e1, e2, e3, h5, h4⟩
      by_cases c : s.1 ∈ x.2.1 <;> cases plus <;> simp [c] at h3 ⊢
  · rintro ⟨h1, h2⟩ k hk
    have hs : row[k]? = some row[k] := List.getElem?_eq_getElem hk
    obtain ⟨h3, j, y, e1, e2, e3, h5, h4⟩ := h2 _ (List.getElem_mem hk)
    unfold yA
    rw [yT h1 hk, lR hs, dM hx, isM_true.2 ⟨j, y, e1, e2, e3⟩, e1, dM e2, decide_eq_true h4, decide_eq_true h5]
    by_cases c : row[k].1 ∈ x.2.1 <;> cases plus <;> simp [c] at h3 ⊢
theorem qM {N : List NM} (h : N.length ≠ 0) : dT N N.length = N[N.length - 1]'(by omega) := by
  have := dM (N := N) (k := N.length - 1) (List.getElem?_eq_getElem (by omega))
  rw [show ((N.length - 1 : Nat) : Int) + 1 = N.length by omega] at this
  exact this
theorem nodes_iff {N : List NM} : yW N = true ↔ GR N := by
  constructor
  · intro h
    unfold yW headN at h
    rw [Bool.and_eq_true, Bool.and_eq_true, Bool.and_eq_true, Bool.and_eq_true, Bool.and_eq_true, decide_eq_true_eq, decide_eq_true_eq, decide_eq_true_eq, List.all_eq_true] at h
    obtain ⟨⟨h0, h1, h2, h3⟩, h4, h5⟩ := h
    rw [qM h0] at h1
    have hn0 : N[0]? = some (N[0]'(by omega)) := List.getElem?_eq_getElem (by omega)
    have e1 : dT N 1 = N[0]'(by omega) := dM (k := 0) hn0
    rw [e1] at h2 h3
    have key : ∀ (i : Nat) (x : NM), N[i]? = some x → wX N i = true := fun i x hx => h4 i (List.mem_range.2 (List.getElem?_eq_some_iff.1 hx).1)
    have yes : ∀ (i : Nat) (x : NM), N[i]? = some x → x.1 = true → eF x.2.1 = true ∧ gY N x.2.1 = i + 1 ∧ oX N ((i : Int) + 1) x.2.2.1 true = true ∧ oX N ((i : Int) + 1) x.2.2.2 false = true := by
      intro i x hx hu
      have := key i x hx
      unfold wX at this
      rw [dR hx, if_pos hu, Bool.and_eq_true, Bool.and_eq_true, Bool.and_eq_true, decide_eq_true_eq] at this
      exact this
    have no : ∀ (i : Nat) (x : NM), N[i]? = some x → x.1 = false → x = n0 := by
      intro i x hx hu
      have := key i x hx
      unfold wX at this
      rw [dR hx, if_neg (by rw [hu]; decide), decide_eq_true_eq] at this
      obtain ⟨a, b, c, d⟩ := x
      dsimp only at this hu
      rw [List.eq_nil_of_length_eq_zero (show b.length = 0 by omega), List.eq_nil_of_length_eq_zero (show c.length = 0 by omega), List.eq_nil_of_length_eq_zero (show d.length = 0 by omega), hu]
    refine ⟨⟨_, List.getElem?_eq_getElem (by omega), h1⟩, ⟨_, hn0, h2, List.eq_nil_of_length_eq_zero h3⟩, fun i x hx hu => (yes i x hx hu).1, fun i j x y hx hy hu hv e => ?_, no, fun i x hx => ?_, fun i x hx s hs => ?_, fun i x hx s hs => ?_, h5⟩
    · have a := (yes i x hx hu).2.1
      have b := (yes j y hy hv).2.1
      rw [e] at a
      omega
    · cases hu : x.1 with
      | true => exact ⟨((jF hx).1 (yes i x hx hu).2.2.1).1, ((jF hx).1 (yes i x hx hu).2.2.2).1⟩
      | false => rw [no i x hx hu]; exact ⟨List.Pairwise.nil, List.Pairwise.nil⟩
    · cases hu : x.1 with
      | true => exact ((jF hx).1 (yes i x hx hu).2.2.1).2 s hs
      | false => rw [no i x hx hu] at hs; cases hs
    · cases hu : x.1 with
      | true => exact ((jF hx).1 (yes i x hx hu).2.2.2).2 s hs
      | false => rw [no i x hx hu] at hs; cases hs
  · intro g
    obtain ⟨x0, hx0, hu0, ht0⟩ := g.first
    obtain ⟨xl, hxl, hul⟩ := g.last
    have hl0 := (List.getElem?_eq_some_iff.1 hx0).1
    unfold yW headN
    have e1 : dT N 1 = x0 := dM (k := 0) hx0
    have e2 : dT N N.length = xl := by rw [qM (by omega)]; exact (List.getElem?_eq_some_iff.1 hxl).2
    rw [e1, e2, hul, hu0, ht0, decide_eq_true g.many, decide_eq_true (show N.length ≠ 0 by omega)]
    rw [show (List.range N.length).all (wX N) = true from List.all_eq_true.2 fun i hi => ?_]
    · rfl
    · have hi := List.mem_range.1 hi
      have hx : N[i]? = some N[i] := List.getElem?_eq_getElem hi
      unfold wX
      rw [dR hx]
      cases hu : N[i].1 with
      | true =>
        rw [if_pos rfl, g.typ i _ hx hu, vX hx hu (fun j y hy hv e => g.uniq j i y _ hy hx hv hu e), (jF hx).2 ⟨(g.rise i _ hx).1, g.plus i _ hx⟩, (jF hx).2 ⟨(g.rise i _ hx).2, g.less i _ hx⟩]
        simp
      | false =>
        rw [if_neg (by decide), g.un i _ hx hu]
        rfl
end Go.Eng
end
section
namespace Go.Eng
open Go.Proofs
set_option linter.unusedSimpArgs false
set_option linter.unusedVariables false
theorem mL {l : List Int} {id : Int} {u : List Int} (hl : eF l = true) (hu : eF u = true) (e : u = wiT l id) : jC l id = 0 ∧ iB l id = u := by
  obtain ⟨h1, h2, h3⟩ := typeB_iff.1 hl
  obtain ⟨g1, g2, g3⟩ := typeB_iff.1 hu
  have hi : insT l id = u := by rw [pI h2, e]
  have hm : mayM id = true := g3 id (by rw [e]; exact wiT_mem.2 (.inl rfl))
  have hc : jC l id = 0 := by unfold jC; rw [if_pos hl, if_pos hm, hi, if_neg (by omega)]
  exact ⟨hc, by unfold iB; rw [if_pos hc, hi]⟩
theorem oB {l : List Int} {id : Int} (hl : eF l = true) (hm : id ∈ l) : outC l id = 0 ∧ outL l id = outT l id := by
  have hc : outC l id = 0 := by unfold outC; rw [if_pos hl, if_pos hm]
  exact ⟨hc, by unfold outL; rw [if_pos hc]⟩
theorem xU {plus : Bool} {l u : List Int} {id : Int} (hl : eF l = true) (hu : eF u = true) (hm : id ∈ l ↔ plus = false) : (xW plus l id = 0 ∧ u = xV plus l id) ↔ u = gX plus l id := by
  cases plus with
  | true =>
    show (jC l id = 0 ∧ u = iB l id) ↔ u = wiT l id
    constructor
    · rintro ⟨h1, h2⟩
      unfold iB at h2
      rw [if_pos h1, pI (typeB_iff.1 hl).2.1] at h2
      exact h2
    · intro e
      obtain ⟨h1, h2⟩ := mL hl hu e
      exact ⟨h1, h2.symm⟩
  | false =>
    show (outC l id = 0 ∧ u = outL l id) ↔ u = outT l id
    obtain ⟨h1, h2⟩ := oB hl (hm.2 rfl)
    rw [h2]
    exact ⟨fun h => h.2, fun h => ⟨h1, h⟩⟩
theorem gB {N : List NM} {i : Nat} {x : NM} (hx : N[i]? = some x) (ht : eF x.2.1 = true) (hall : ∀ (j : Nat) (y : NM), N[j]? = some y → y.1 = true → eF y.2.1 = true) {row : List ST} {plus : Bool} : iE N ((i : Int) + 1) row plus = true ↔ kL row ∧ ∀ s ∈ row, mR N i x plus s := by
  rw [wL]
  have hh : ∀ id, hasT x.2.1 id = decide (id ∈ x.2.1) := fun id => by unfold hasT; rw [ht]; rfl
  constructor
  · intro h
    refine ⟨yF fun k hk => ?_, fun s hs => ?_⟩
    · have := h k hk
      unfold qA at this
      exact (Bool.and_eq_true _ _ ▸ this : _ ∧ _).1
    · obtain ⟨k, hk⟩ := List.mem_iff_getElem?.1 hs
      have := h k (List.getElem?_eq_some_iff.1 hk).1
      unfold qA at this
      rw [lR hk, dM hx, Bool.and_eq_true, Bool.and_eq_true, Bool.and_eq_true, Bool.and_eq_true, Bool.and_eq_true, decide_eq_true_eq, decide_eq_true_eq, decide_eq_true_eq, hh] at this
      obtain ⟨_, h2, h3, h4, h5, h6⟩ := this
      obtain ⟨j, y, e1, e2, e3⟩ := isM_true.1 h2
      rw [e1, dM e2] at h5 h6
      have hm : s.1 ∈ x.2.1 ↔ plus = false := by by_cases c : s.1 ∈ x.2.1 <;> cases plus <;> simp [c] at h3 ⊢
      exact ⟨hm, j, y, e1, e2, e3, (xU ht (hall j y e2 e3) hm).1 ⟨h4, h5⟩, h6⟩
  · rintro ⟨h1, h2⟩ k hk
    have hs : row[k]? = some row[k] := List.getElem?_eq_getElem hk
    obtain ⟨h3, j, y, e1, e2, e3, h5, h4⟩ := h2 _ (List.getElem_mem hk)
    obtain ⟨h6, h7⟩ := (xU ht (hall j y e2 e3) h3).2 h5
    unfold qA
    rw [yT h1 hk, lR hs, dM hx, isM_true.2 ⟨j, y, e1, e2, e3⟩, e1, dM e2, decide_eq_true h4, decide_eq_true h6, decide_eq_true h7, hh]
    by_cases c : row[k].1 ∈ x.2.1 <;> cases plus <;> simp [c] at h3 ⊢
theorem pC {α : Type} [DecidableEq α] : ∀ {l1 l2 : List α}, l1.Pairwise (· ≠ ·) → (∀ x ∈ l1, x ∈ l2) → l2.length ≤ l1.length → l1.Perm l2
  | [], l2, _, _, h => by rw [List.eq_nil_of_length_eq_zero (Nat.le_zero.1 h)]
  | x :: l1, l2, hn, hs, h => by
    obtain ⟨h1, h2⟩ := List.pairwise_cons.1 hn
    have hx := hs x List.mem_cons_self
    have hp := List.perm_cons_erase hx
    have hl := List.length_erase_of_mem hx
    have hpos := List.length_pos_of_mem hx
    rw [List.length_cons] at h
    refine (List.Perm.cons x (pC h2 (fun y hy => ?_) (by omega))).trans hp.symm
    have hy2 := hs y (List.mem_cons_of_mem _ hy)
    rcases List.mem_cons.1 (hp.mem_iff.1 hy2) with e | e
    · exact absurd e.symm (h1 y hy)
    · exact e
theorem mQ {N : List NM} (hu : ∀ (i j : Nat) (x y : NM), N[i]? = some x → N[j]? = some y → x.1 = true → y.1 = true → x.2.1 = y.2.1 → i = j) : eK (useE N N.length) := by
  unfold eK useE
  rw [List.pairwise_map]
  refine List.Pairwise.imp_of_mem (fun {a b} ha hb hne e => hne ?_) (uN_nodup N N.length)
  obtain ⟨a1, a2⟩ := mem_uN.1 ha
  obtain ⟨b1, b2⟩ := mem_uN.1 hb
  have hxa : N[a]? = some (N[a]'a1) := List.getElem?_eq_getElem a1
  have hxb : N[b]? = some (N[b]'b1) := List.getElem?_eq_getElem b1
  dsimp only [entAt] at e
  rw [dR hxa] at a2 e
  rw [dR hxb] at b2 e
  exact hu a b _ _ hxa hxb a2 b2 e
theorem pair_inj {N : List NM} {E : List Ent} {i j : Nat} {x y : NM} (h1 : lH E x.2.1 = ((i : Int) + 1, true)) (h2 : lH E y.2.1 = ((j : Int) + 1, true)) (e : x.2.1 = y.2.1) : i = j := by
  rw [e, h2] at h1
  have := congrArg Prod.fst h1
  dsimp only at this
  omega
theorem uT {E : List Ent} {t : List Int} {n : Int} (h : lH E t = (n, true)) : dF E = true ∧ ((1, t, n) : Ent) ∈ allM E := by
  unfold lH at h
  by_cases hc : dF E = true
  · rw [if_pos hc] at h
    by_cases hp : fV E t < 0
    · rw [if_pos hp] at h; cases h
    · rw [if_neg hp] at h
      rcases iN E t with h2 | ⟨q, x, hx, hq, h1, h3⟩
      · omega
      · rw [hq, show ((q : Nat) : Int).toNat = q by omega, fR hx] at h
        have e := congrArg Prod.fst h
        dsimp only at e
        refine ⟨hc, (fY E).mem_iff.2 (List.mem_filter.2 ⟨?_, rfl⟩)⟩
        rw [← e, ← h3, ← h1]
        exact List.mem_of_getElem? hx
  · rw [if_neg hc] at h; cases h
theorem qU {E : List Ent} (hc : dF E = true) {e : Ent} (he : e ∈ allM E) : lH E e.2.1 = (e.2.2, true) := find_mem hc ((fY E).mem_iff.1 he)
theorem check_iff {N : List NM} {E : List Ent} : eG N E = true ↔ GR N ∧ dF E = true ∧ allM E = fP N := by
  constructor
  · intro h
    unfold eG uP at h
    rw [Bool.and_eq_true, Bool.and_eq_true, Bool.and_eq_true, Bool.and_eq_true, Bool.and_eq_true, Bool.and_eq_true, decide_eq_true_eq, decide_eq_true_eq, decide_eq_true_eq, List.all_eq_true] at h
    obtain ⟨⟨h0, hl, hf, h3, hcE⟩, h4, h5⟩ := h
    obtain ⟨j, xl, ej, hxl, hul⟩ := isM_true.1 hl
    obtain ⟨j0, x0, ej0, hx0, hu0⟩ := isM_true.1 hf
    have ej' : j = N.length - 1 := by omega
    have ej0' : j0 = 0 := by omega
    subst ej' ej0'
    have e1 : dT N 1 = x0 := dM (k := 0) hx0
    rw [e1] at h3
    have key : ∀ (i : Nat) (x : NM), N[i]? = some x → oI N E i = true := fun i x hx => h4 i (List.mem_range.2 (List.getElem?_eq_some_iff.1 hx).1)
    have yes : ∀ (i : Nat) (x : NM), N[i]? = some x → x.1 = true → eF x.2.1 = true ∧ lH E x.2.1 = ((i : Int) + 1, true) ∧ iE N ((i : Int) + 1) x.2.2.1 true = true ∧ iE N ((i : Int) + 1) x.2.2.2 false = true := by
      intro i x hx hu
      have := key i x hx
      unfold oI at this
      rw [dR hx, if_pos hu, Bool.and_eq_true, Bool.and_eq_true, Bool.and_eq_true, decide_eq_true_eq] at this
      exact this
    have no : ∀ (i : Nat) (x : NM), N[i]? = some x → x.1 = false → x = n0 := by
      intro i x hx hu
      have := key i x hx
      unfold oI at this
      rw [dR hx, if_neg (by rw [hu]; decide), decide_eq_true_eq] at this
      obtain ⟨a, b, c, d⟩ := x
      dsimp only at this hu
      rw [List.eq_nil_of_length_eq_zero (show b.length = 0 by omega), List.eq_nil_of_length_eq_zero (show c.length = 0 by omega), List.eq_nil_of_length_eq_zero (show d.length = 0 by omega), hu]
    have hall : ∀ (j : Nat) (y : NM), N[j]? = some y → y.1 = true → eF y.2.1 = true := fun j y hy hu => (yes j y hy hu).1
    have huq : ∀ (i j : Nat) (x y : NM), N[i]? = some x → N[j]? = some y → x.1 = true → y.1 = true → x.2.1 = y.2.1 → i = j := fun i j x y hx hy hu hv e => pair_inj (N := N) (yes i x hx hu).2.1 (yes j y hy hv).2.1 e
    have hE : allF E = allM E := tY hcE
    have hdist := mQ huq
    have hsub : ∀ e ∈ useE N N.length, e ∈ allM E := fun e he => by
      obtain ⟨j, x, hx, hu, rfl⟩ := ents_mem.1 ((kP N).mem_iff.2 he)
      exact (uT (yes j x hx hu).2.1).2
    have hlen : (allM E).length ≤ (useE N N.length).length := by
      have : (useE N N.length).length = iD N := by unfold useE; rw [List.length_map, vS]
      rw [this, h5, hE]
      exact Nat.le_refl _
    have hperm : (useE N N.length).Perm (allM E) := pC (hdist.imp fun h e => h (congrArg (fun x => x.2.1) e)) hsub hlen
    refine ⟨⟨⟨xl, hxl, hul⟩, ⟨x0, hx0, hu0, List.eq_nil_of_length_eq_zero h3⟩, hall, huq, no, fun i x hx => ?_, fun i x hx s hs => ?_, fun i x hx s hs => ?_, by rw [h5]; exact aAk E⟩, hcE, (lV (eR hcE) ((kP N).trans (hperm.trans (fY E))) (kA N)).symm⟩
    · cases hu : x.1 with
      | true => exact ⟨((gB hx (hall i x hx hu) hall).1 (yes i x hx hu).2.2.1).1, ((gB hx (hall i x hx hu) hall).1 (yes i x hx hu).2.2.2).1⟩
      | false => rw [no i x hx hu]; exact ⟨List.Pairwise.nil, List.Pairwise.nil⟩
    · cases hu : x.1 with
      | true => exact ((gB hx (hall i x hx hu) hall).1 (yes i x hx hu).2.2.1).2 s hs
      | false => rw [no i x hx hu] at hs; cases hs
    · cases hu : x.1 with
      | true => exact ((gB hx (hall i x hx hu) hall).1 (yes i x hx hu).2.2.2).2 s hs
      | false => rw [no i x hx hu] at hs; cases hs
  · rintro ⟨g, hcE, hA⟩
    obtain ⟨x0, hx0, hu0, ht0⟩ := g.first
    obtain ⟨xl, hxl, hul⟩ := g.last
    have hl0 := (List.getElem?_eq_some_iff.1 hx0).1
    have e1 : dT N 1 = x0 := dM (k := 0) hx0
    unfold eG uP
    rw [e1, ht0, hcE, (isM_true.2 ⟨0, x0, rfl, hx0, hu0⟩ : isM N 1 = true), (isM_true.2 ⟨N.length - 1, xl, by omega, hxl, hul⟩ : isM N N.length = true), decide_eq_true (show N.length ≠ 0 by omega), tY hcE, hA, iS, decide_eq_true (rfl : iD N = iD N)]
    rw [show (List.range N.length).all (oI N E) = true from List.all_eq_true.2 fun i hi => ?_]
    · rfl
    · have hi := List.mem_range.1 hi
      have hx : N[i]? = some N[i] := List.getElem?_eq_getElem hi
      unfold oI
      rw [dR hx]
      cases hu : N[i].1 with
      | true =>
        have hm : ((1, N[i].2.1, (i : Int) + 1) : Ent) ∈ allM E := by rw [hA]; exact ents_mem.2 ⟨i, _, hx, hu, rfl⟩
        rw [if_pos rfl, g.typ i _ hx hu, qU hcE hm, (gB hx (g.typ i _ hx hu) g.typ).2 ⟨(g.rise i _ hx).1, g.plus i _ hx⟩, (gB hx (g.typ i _ hx hu) g.typ).2 ⟨(g.rise i _ hx).2, g.less i _ hx⟩]
        simp
      | false =>
        rw [if_neg (by decide), g.un i _ hx hu]
        rfl
theorem qT {N : List NM} {E : List Ent} (h : eG N E = true) (t : List Int) : lH E t = ((gY N t : Int), decide (gY N t ≠ 0)) := by
  obtain ⟨g, hcE, hA⟩ := check_iff.1 h
  by_cases c : gY N t = 0
  · rw [zO (es := E) (t := t) (fun y hy e => ?_), c, decide_eq_false (by omega)]; rfl
    have hy2 : y ∈ fP N := hA ▸ (fY E).mem_iff.2 hy
    obtain ⟨j, x, hx, hu, rfl⟩ := ents_mem.1 hy2
    exact findN_none.1 c j x hx hu e
  · obtain ⟨j, x, hx, hu, rfl, hj, _⟩ := tF c
    have hm : ((1, x.2.1, (j : Int) + 1) : Ent) ∈ allM E := by rw [hA]; exact ents_mem.2 ⟨j, _, hx, hu, rfl⟩
    rw [qU hcE hm, hj, decide_eq_true (by omega)]
    rfl
end Go.Eng
end
section
namespace Go.Eng
open Go.Proofs
set_option linter.unusedSimpArgs false
set_option linter.unusedVariables false
theorem lZ {α : Type} [DecidableEq α] : ∀ {l1 l2 : List α}, l1.Pairwise (· ≠ ·) → l2.Pairwise (· ≠ ·) → (∀ x, x ∈ l1 ↔ x ∈ l2) → l1.Perm l2
  | [], l2, _, _, h => by
    cases l2 with
    | nil => exact .nil
    | cons y l => exact absurd ((h y).2 List.mem_cons_self) (by simp)
  | x :: l1, l2, h1, h2, h => by
    obtain ⟨a1, a2⟩ := List.pairwise_cons.1 h1
    have hx := (h x).1 List.mem_cons_self
    have hp := List.perm_cons_erase hx
    have h3 : (x :: l2.erase x).Pairwise (· ≠ ·) := (hp.pairwise_iff (fun h => Ne.symm h)).1 h2
    obtain ⟨b1, b2⟩ := List.pairwise_cons.1 h3
    refine (List.Perm.cons x (lZ a2 b2 fun y => ?_)).trans hp.symm
    constructor
    · intro hy
      rcases List.mem_cons.1 (hp.mem_iff.1 ((h y).1 (List.mem_cons_of_mem _ hy))) with e | e
      · exact absurd e.symm (a1 y hy)
      · exact e
    · intro hy
      rcases List.mem_cons.1 ((h y).2 (hp.mem_iff.2 (List.mem_cons_of_mem _ hy))) with e | e
      · exact absurd e.symm (b1 y hy)
      · exact e
abbrev mH (N : List NM) : Prop := ∀ (i j : Nat) (x y : NM), N[i]? = some x → N[j]? = some y → x.1 = true → y.1 = true → x.2.1 = y.2.1 → i = j
theorem eY {l : List Ent} (h : eK l) : l.Pairwise (· ≠ ·) := h.imp fun h e => h (congrArg (fun x => x.2.1) e)
theorem dX {N : List NM} (hu : mH N) : eK (fP N) := ((kP N).pairwise_iff (fun h => Ne.symm h)).2 (mQ hu)
theorem aAi {N : List NM} {E : List Ent} (hc : dF E = true) (hu : mH N) (h : ∀ e, e ∈ E.filter eI ↔ e ∈ fP N) : allM E = fP N :=
  (lV (eR hc) (lZ (eY (dX hu)) (eY (eR hc)) (fun e => (h e).symm)) (kA N)).symm
def fO (N : List NM) : Nat := N.findIdx (fun x => !x.1)
theorem gH (N : List NM) : fO N ≤ N.length := List.findIdx_le_length
theorem freeN_lo {N : List NM} {i : Nat} {x : NM} (hx : N[i]? = some x) (h : i < fO N) : x.1 = true := by
  have h1 := List.not_of_lt_findIdx h
  rw [(List.getElem?_eq_some_iff.1 hx).2] at h1
  simpa using h1
theorem rT {N : List NM} {x : NM} (hx : N[fO N]? = some x) : x.1 = false := by
  have hl := (List.getElem?_eq_some_iff.1 hx).1
  have h1 := List.findIdx_getElem (xs := N) (p := fun (x : NM) => !x.1) (w := hl)
  have h2 : N[N.findIdx (fun (x : NM) => !x.1)]'hl = x := (List.getElem?_eq_some_iff.1 hx).2
  rw [h2] at h1
  simpa using h1
theorem xC {N : List NM} {k : Nat} (hk : k ≤ N.length) (h1 : ∀ (i : Nat) (x : NM), N[i]? = some x → i < k → x.1 = true) (h2 : ∀ x, N[k]? = some x → x.1 = false) : fO N = k := by
  rcases Nat.lt_trichotomy (fO N) k with h | h | h
  · have hx : N[fO N]? = some (N[fO N]'(by omega)) := List.getElem?_eq_getElem (by omega)
    have a := h1 _ _ hx h
    rw [rT hx] at a; cases a
  · exact h
  · have := gH N
    have hx : N[k]? = some (N[k]'(by omega)) := List.getElem?_eq_getElem (by omega)
    have a := freeN_lo hx h
    rw [h2 _ hx] at a; cases a
def setN (N : List NM) (p : Nat) (x : NM) : List NM := if p < N.length then N.set p x else N ++ [x]
theorem jV {N : List NM} {p : Nat} (hp : p ≤ N.length) (x : NM) (i : Nat) : (setN N p x)[i]? = if i = p then some x else N[i]? := by
  unfold setN
  by_cases h : p < N.length
  · rw [if_pos h]
    by_cases e : i = p
    · subst e; rw [if_pos rfl, List.getElem?_set_self h]
    · rw [if_neg e, List.getElem?_set_ne (by omega)]
  · rw [if_neg h]
    by_cases e : i = p
    · subst e; rw [if_pos rfl, List.getElem?_append_right (by omega), show i - N.length = 0 by omega]; rfl
    · rw [if_neg e]
      by_cases c : i < N.length
      · rw [List.getElem?_append_left c]
      · rw [List.getElem?_eq_none (by rw [List.length_append, List.length_singleton]; omega), List.getElem?_eq_none (by omega)]
theorem rN {N : List NM} {p : Nat} (hp : p ≤ N.length) (x : NM) : (setN N p x).length = if p < N.length then N.length else p + 1 := by
  unfold setN
  by_cases h : p < N.length
  · rw [if_pos h, if_pos h, List.length_set]
  · rw [if_neg h, if_neg h, List.length_append, List.length_singleton]; omega
abbrev newN (t : List Int) : NM := (true, t, [], [])
theorem free_pos {N : List NM} (g : GR N) : 1 ≤ fO N := by
  obtain ⟨x, hx, hu, _⟩ := g.first
  refine Decidable.by_contra fun h => ?_
  have e : fO N = 0 := by omega
  have := rT (N := N) (x := x) (by rw [e]; exact hx)
  rw [hu] at this; cases this
theorem mW {N : List NM} {t : List Int} {j : Nat} {y : NM} (hy : N[j]? = some y) (hu : y.1 = true) : (setN N (fO N) (newN t))[j]? = some y := by
  rw [jV (gH N), if_neg]
  · exact hy
  · rintro rfl
    rw [rT hy] at hu; cases hu
theorem rM {N : List NM} {t : List Int} (hu : mH N) (hf : gY N t = 0) : mH (setN N (fO N) (newN t)) := by
  intro i j x y hx hy h1 h2 e
  rw [jV (gH N)] at hx hy
  by_cases ei : i = fO N
  · rw [if_pos ei] at hx
    cases hx
    by_cases ej : j = fO N
    · omega
    · rw [if_neg ej] at hy
      exact absurd e.symm (findN_none.1 hf j y hy h2)
  · rw [if_neg ei] at hx
    by_cases ej : j = fO N
    · rw [if_pos ej] at hy
      cases hy
      exact absurd e (findN_none.1 hf i x hx h1)
    · rw [if_neg ej] at hy
      exact hu i j x y hx hy h1 h2 e
theorem vM {N : List NM} {t : List Int} (e : Ent) : e ∈ fP (setN N (fO N) (newN t)) ↔ e ∈ fP N ∨ e = (1, t, (fO N : Int) + 1) := by
  rw [ents_mem, ents_mem]
  constructor
  · rintro ⟨j, x, hx, h1, rfl⟩
    rw [jV (gH N)] at hx
    by_cases ej : j = fO N
    · rw [if_pos ej] at hx
      cases hx
      rw [ej]; exact .inr rfl
    · rw [if_neg ej] at hx
      exact .inl ⟨j, x, hx, h1, rfl⟩
  · rintro (⟨j, x, hx, h1, rfl⟩ | rfl)
    · exact ⟨j, x, mW hx h1, h1, rfl⟩
    · exact ⟨fO N, newN t, by rw [jV (gH N), if_pos rfl], rfl, rfl⟩
theorem set_many {N : List NM} {t : List Int} (hu : mH N) (hf : gY N t = 0) : iD (setN N (fO N) (newN t)) = iD N + 1 := by
  rw [← iS, ← iS]
  have hn : ((1, t, (fO N : Int) + 1) : Ent) ∉ fP N := fun h => by
    obtain ⟨j, x, hx, h1, e⟩ := ents_mem.1 h
    exact findN_none.1 hf j x hx h1 (congrArg (fun x => x.2.1) e).symm
  have hp : (fP (setN N (fO N) (newN t))).Perm ((1, t, (fO N : Int) + 1) :: fP N) := by
    refine lZ (eY (dX (rM hu hf))) (List.pairwise_cons.2 ⟨fun y hy e => hn (e ▸ hy), eY (dX hu)⟩) fun x => ?_
    rw [vM, List.mem_cons]
    exact Or.comm
  rw [hp.length_eq, List.length_cons]
theorem set_GR {N : List NM} {t : List Int} (g : GR N) (ht : eF t = true) (hf : gY N t = 0) (hm : iD N ≠ 4000) : GR (setN N (fO N) (newN t)) := by
  have h1 := free_pos g
  have hle := gH N
  have hget := fun i => jV hle (newN t) i
  have hst : ∀ (i : Nat) (x : NM) (plus : Bool) (s : ST), mR N i x plus s → mR (setN N (fO N) (newN t)) i x plus s := by
    rintro i x plus s ⟨a, j, y, b, c, d, e, f⟩
    exact ⟨a, j, y, b, mW c d, d, e, f⟩
  refine ⟨?_, ?_, fun i x hx hu => ?_, rM g.uniq hf, fun i x hx hu => ?_, fun i x hx => ?_, fun i x hx s hs => ?_, fun i x hx s hs => ?_, by have := g.many; rw [set_many g.uniq hf]; omega⟩
  · obtain ⟨x, hx, hu⟩ := g.last
    have hl := (List.getElem?_eq_some_iff.1 hx).1
    rw [rN hle]
    by_cases c : fO N < N.length
    · rw [if_pos c]; exact ⟨x, mW hx hu, hu⟩
    · rw [if_neg c, Nat.add_sub_cancel, hget, if_pos rfl]; exact ⟨_, rfl, rfl⟩
  · obtain ⟨x, hx, hu, ht⟩ := g.first
    exact ⟨x, mW hx hu, hu, ht⟩
  · rw [hget] at hx
    by_cases e : i = fO N
    · rw [if_pos e] at hx; cases hx; exact ht
    · rw [if_neg e] at hx; exact g.typ i x hx hu
  · rw [hget] at hx
    by_cases e : i = fO N
    · rw [if_pos e] at hx; cases hx; cases hu
    · rw [if_neg e] at hx; exact g.un i x hx hu
  · rw [hget] at hx
    by_cases e : i = fO N
    · rw [if_pos e] at hx; cases hx; exact ⟨List.Pairwise.nil, List.Pairwise.nil⟩
    · rw [if_neg e] at hx; exact g.rise i x hx
  · rw [hget] at hx
    by_cases e : i = fO N
    · rw [if_pos e] at hx; cases hx; cases hs
    · rw [if_neg e] at hx; exact hst _ _ _ _ (g.plus i x hx s hs)
  · rw [hget] at hx
    by_cases e : i = fO N
    · rw [if_pos e] at hx; cases hx; cases hs
    · rw [if_neg e] at hx; exact hst _ _ _ _ (g.less i x hx s hs)
def ofC (N : List NM) (t : List Int) : Int := if eF t then (if gY N t ≠ 0 then 0 else if iD N = 4000 then 6 else 0) else 130
def ofL (N : List NM) (t : List Int) : List NM := if ofC N t = 0 then (if gY N t ≠ 0 then N else setN N (fO N) (newN t)) else []
def ofn (N : List NM) (t : List Int) : Nat := if ofC N t = 0 then (if gY N t ≠ 0 then gY N t else fO N + 1) else 0
theorem of_cases {N : List NM} {t : List Int} (h : ofC N t = 0) : eF t = true ∧ ((gY N t ≠ 0 ∧ ofL N t = N ∧ ofn N t = gY N t) ∨ (gY N t = 0 ∧ iD N ≠ 4000 ∧ ofL N t = setN N (fO N) (newN t) ∧ ofn N t = fO N + 1)) := by
  have ht : eF t = true := by
    cases c : eF t with
    | true => rfl
    | false => unfold ofC at h; rw [c, if_neg (by decide)] at h; exact absurd h (by decide)
  refine ⟨ht, ?_⟩
  by_cases c : gY N t = 0
  · refine .inr ⟨c, fun e => ?_, ?_, ?_⟩
    · unfold ofC at h; rw [if_pos ht, if_neg (fun h => h c), if_pos e] at h; exact absurd h (by decide)
    · unfold ofL; rw [if_pos h, if_neg (fun h => h c)]
    · unfold ofn; rw [if_pos h, if_neg (fun h => h c)]
  · refine .inl ⟨c, ?_, ?_⟩
    · unfold ofL; rw [if_pos h, if_pos c]
    · unfold ofn; rw [if_pos h, if_pos c]
theorem of_GR {N : List NM} {t : List Int} (g : GR N) (h : ofC N t = 0) : GR (ofL N t) ∧ (∃ x, (ofL N t)[ofn N t - 1]? = some x ∧ x.1 = true ∧ x.2.1 = t) ∧ 1 ≤ ofn N t ∧ ∀ (i : Nat) (x : NM), N[i]? = some x → x.1 = true → (ofL N t)[i]? = some x := by
  obtain ⟨ht, ⟨c, e1, e2⟩ | ⟨c, hm, e1, e2⟩⟩ := of_cases h
  · obtain ⟨j, x, hx, hu, hxt, hj, _⟩ := tF c
    rw [e1, e2, hj]
    exact ⟨g, ⟨x, hx, hu, hxt⟩, by omega, fun i x hx _ => hx⟩
  · rw [e1, e2, Nat.add_sub_cancel]
    exact ⟨set_GR g ht c hm, ⟨_, by rw [jV (gH N), if_pos rfl], rfl, rfl⟩, by omega, fun i x hx hu => mW hx hu⟩
end Go.Eng
end
section
namespace Go.Eng
open Go.Proofs
set_option linter.unusedSimpArgs false
set_option linter.unusedVariables false
def wiS (l : List ST) (s : ST) : List ST := l.filter (fun x => decide (x.1 < s.1)) ++ s :: l.filter (fun x => decide (s.1 < x.1))
theorem wiS_mem {l : List ST} {s x : ST} : x ∈ wiS l s ↔ x = s ∨ (x ∈ l ∧ x.1 ≠ s.1) := by
  unfold wiS
  rw [List.mem_append, List.mem_cons, List.mem_filter, List.mem_filter, decide_eq_true_eq, decide_eq_true_eq]
  constructor
  · rintro (h | h | h)
    · exact .inr ⟨h.1, by omega⟩
    · exact .inl h
    · exact .inr ⟨h.1, by omega⟩
  · rintro (h | ⟨h, e⟩)
    · exact .inr (.inl h)
    · rcases Int.lt_trichotomy x.1 s.1 with a | a | a
      · exact .inl ⟨h, a⟩
      · exact absurd a e
      · exact .inr (.inr ⟨h, a⟩)
theorem rD {l : List ST} {s : ST} (h : kL l) : kL (wiS l s) := by
  unfold wiS kL
  rw [List.pairwise_append, List.pairwise_cons]
  refine ⟨h.sublist List.filter_sublist, ⟨fun x hx => of_decide_eq_true (List.mem_filter.1 hx).2, h.sublist List.filter_sublist⟩, fun x hx y hy => ?_⟩
  have h1 : x.1 < s.1 := of_decide_eq_true (List.mem_filter.1 hx).2
  rcases List.mem_cons.1 hy with e | e
  · rw [e]; exact h1
  · have h2 : s.1 < y.1 := of_decide_eq_true (List.mem_filter.1 e).2
    omega
theorem qI : ∀ {l1 l2 : List ST}, kL l1 → kL l2 → (∀ x, x ∈ l1 ↔ x ∈ l2) → l1 = l2
  | [], [], _, _, _ => rfl
  | [], y :: ys, _, _, h => absurd ((h y).2 List.mem_cons_self) (by simp)
  | x :: xs, [], _, _, h => absurd ((h x).1 List.mem_cons_self) (by simp)
  | x :: xs, y :: ys, h1, h2, h => by
    rw [kL, List.pairwise_cons] at h1 h2
    have e : x = y := by
      rcases List.mem_cons.1 ((h x).1 List.mem_cons_self) with e | e
      · exact e
      · rcases List.mem_cons.1 ((h y).2 List.mem_cons_self) with e2 | e2
        · exact e2.symm
        · have a1 := h2.1 x e
          have a2 := h1.1 y e2
          omega
    subst e
    congr 1
    refine qI h1.2 h2.2 fun z => ?_
    constructor
    · intro hz
      rcases List.mem_cons.1 ((h z).1 (List.mem_cons_of_mem _ hz)) with e | e
      · have := h1.1 z hz; rw [e] at this; omega
      · exact e
    · intro hz
      rcases List.mem_cons.1 ((h z).2 (List.mem_cons_of_mem _ hz)) with e | e
      · have := h2.1 z hz; rw [e] at this; omega
      · exact e
theorem yG {l : List ST} (h : kL l) {x y : ST} (hx : x ∈ l) (hy : y ∈ l) (e : x.1 = y.1) : x = y := by
  obtain ⟨i, hi⟩ := List.mem_iff_getElem?.1 hx
  obtain ⟨j, hj⟩ := List.mem_iff_getElem?.1 hy
  obtain ⟨hil, hi2⟩ := List.getElem?_eq_some_iff.1 hi
  obtain ⟨hjl, hj2⟩ := List.getElem?_eq_some_iff.1 hj
  rcases Nat.lt_trichotomy i j with c | c | c
  · have := List.pairwise_iff_getElem.1 h i j hil hjl c
    rw [hi2, hj2] at this; omega
  · subst c; rw [hi] at hj; exact Option.some.inj hj
  · have := List.pairwise_iff_getElem.1 h j i hjl hil c
    rw [hi2, hj2] at this; omega
theorem rC {l : List ST} {s : ST} (h : kL l) (hm : s ∈ l) : wiS l s = l := qI (rD h) h fun x => by
  rw [wiS_mem]
  constructor
  · rintro (e | e)
    · rw [e]; exact hm
    · exact e.1
  · intro hx
    by_cases e : x.1 = s.1
    · exact .inl (yG h hx hm e)
    · exact .inr ⟨hx, e⟩
def fW (N : List NM) (lo hi : Nat) (id : Int) : List NM :=
  (N.set hi ((N.getD hi n0).1, (N.getD hi n0).2.1, (N.getD hi n0).2.2.1, wiS (N.getD hi n0).2.2.2 (id, (lo : Int) + 1))).set lo
    ((N.getD lo n0).1, (N.getD lo n0).2.1, wiS (N.getD lo n0).2.2.1 (id, (hi : Int) + 1), (N.getD lo n0).2.2.2)
theorem lN (N : List NM) (lo hi : Nat) (id : Int) : (fW N lo hi id).length = N.length := by unfold fW; rw [List.length_set, List.length_set]
theorem iO {N : List NM} {lo hi : Nat} {id : Int} {a b : NM} (ha : N[hi]? = some a) (hb : N[lo]? = some b) (hne : lo ≠ hi) (i : Nat) :
    (fW N lo hi id)[i]? = if i = lo then some (b.1, b.2.1, wiS b.2.2.1 (id, (hi : Int) + 1), b.2.2.2) else if i = hi then some (a.1, a.2.1, a.2.2.1, wiS a.2.2.2 (id, (lo : Int) + 1)) else N[i]? := by
  have h1 := (List.getElem?_eq_some_iff.1 ha).1
  have h2 := (List.getElem?_eq_some_iff.1 hb).1
  unfold fW
  rw [dR ha, dR hb]
  by_cases e : i = lo
  · rw [if_pos e, e, List.getElem?_set_self (by rw [List.length_set]; exact h2)]
  · rw [if_neg e, List.getElem?_set_ne (by omega)]
    by_cases e2 : i = hi
    · rw [if_pos e2, e2, List.getElem?_set_self h1]
    · rw [if_neg e2, List.getElem?_set_ne (by omega)]
section
variable {N : List NM} {lo hi : Nat} {id : Int} {a b : NM}
theorem oL (ha : N[hi]? = some a) (hb : N[lo]? = some b) (hne : lo ≠ hi) {i : Nat} {x' : NM} (hx : (fW N lo hi id)[i]? = some x') :
    ∃ x, N[i]? = some x ∧ x'.1 = x.1 ∧ x'.2.1 = x.2.1 ∧ (x'.2.2.1 = x.2.2.1 ∨ (i = lo ∧ x = b ∧ x'.2.2.1 = wiS x.2.2.1 (id, (hi : Int) + 1))) ∧ (x'.2.2.2 = x.2.2.2 ∨ (i = hi ∧ x = a ∧ x'.2.2.2 = wiS x.2.2.2 (id, (lo : Int) + 1))) := by
  rw [iO ha hb hne] at hx
  by_cases e : i = lo
  · rw [if_pos e] at hx; cases hx; exact ⟨b, by rw [e]; exact hb, rfl, rfl, .inr ⟨e, rfl, rfl⟩, .inl rfl⟩
  · rw [if_neg e] at hx
    by_cases e2 : i = hi
    · rw [if_pos e2] at hx; cases hx; exact ⟨a, by rw [e2]; exact ha, rfl, rfl, .inl rfl, .inr ⟨e2, rfl, rfl⟩⟩
    · rw [if_neg e2] at hx; exact ⟨x', hx, rfl, rfl, .inl rfl, .inl rfl⟩
theorem link_new (g : GR N) (ha : N[hi]? = some a) (hb : N[lo]? = some b) (hua : a.1 = true) (hub : b.1 = true) (ht : a.2.1 = wiT b.2.1 id) (hn : id ∉ b.2.1) (hne : lo ≠ hi) {i : Nat} {x : NM} (hx : N[i]? = some x) :
    ∃ x', (fW N lo hi id)[i]? = some x' ∧ x'.1 = x.1 ∧ x'.2.1 = x.2.1 ∧ (∀ s ∈ x.2.2.1, s ∈ x'.2.2.1) ∧ (∀ s ∈ x.2.2.2, s ∈ x'.2.2.2) ∧ (i = lo → (id, (hi : Int) + 1) ∈ x'.2.2.1) ∧ (i = hi → (id, (lo : Int) + 1) ∈ x'.2.2.2) := by
  have hbt := (typeB_iff.1 (g.typ lo b hb hub)).2.1
  rw [iO ha hb hne]
  by_cases e : i = lo
  · have hxb : x = b := by rw [e, hb] at hx; exact (Option.some.inj hx).symm
    rw [if_pos e]
    refine ⟨_, rfl, by rw [hxb], by rw [hxb], fun s hs => ?_, fun s hs => by rw [hxb] at hs; exact hs, fun _ => wiS_mem.2 (.inl rfl), fun e2 => absurd (e ▸ e2) hne⟩
    rw [hxb] at hs
    refine wiS_mem.2 ?_
    by_cases c : s.1 = id
    · refine .inl ?_
      obtain ⟨_, j, y, e1, e2, e3, e4, _⟩ := g.plus lo b hb s hs
      have e4 : y.2.1 = wiT b.2.1 s.1 := e4
      have : j = hi := g.uniq j hi y a e2 ha e3 hua (by rw [e4, c, ht])
      rw [this] at e1
      exact Prod.ext c e1
    · exact .inr ⟨hs, c⟩
  · rw [if_neg e]
    by_cases e2 : i = hi
    · have hxa : x = a := by rw [e2, ha] at hx; exact (Option.some.inj hx).symm
      rw [if_pos e2]
      refine ⟨_, rfl, by rw [hxa], by rw [hxa], fun s hs => by rw [hxa] at hs; exact hs, fun s hs => ?_, fun h => absurd h e, fun _ => wiS_mem.2 (.inl rfl)⟩
      rw [hxa] at hs
      refine wiS_mem.2 ?_
      by_cases c : s.1 = id
      · refine .inl ?_
        obtain ⟨_, j, y, e1, e2, e3, e4, _⟩ := g.less hi a ha s hs
        have e4 : y.2.1 = outT a.2.1 s.1 := e4
        have hty := (typeB_iff.1 (g.typ j y e2 e3)).2.1
        have : j = lo := g.uniq j lo y b e2 hb e3 hub (by
          refine jG hty hbt fun z => ?_
          rw [e4, c, ht, outT_mem, wiT_mem]
          constructor
          · rintro ⟨h1 | h1, h2⟩
            · exact absurd h1 h2
            · exact h1
          · intro h
            exact ⟨.inr h, fun h2 => hn (h2 ▸ h)⟩)
        rw [this] at e1
        exact Prod.ext c e1
      · exact .inr ⟨hs, c⟩
    · rw [if_neg e2]
      exact ⟨x, hx, rfl, rfl, fun s hs => hs, fun s hs => hs, fun h => absurd h e, fun h => absurd h e2⟩
theorem yS {l : List Int} {id : Int} (h : jT l) (hn : id ∉ l) : outT (wiT l id) id = l := jG (pD (rB h)) h fun z => by
  rw [outT_mem, wiT_mem]
  constructor
  · rintro ⟨h1 | h1, h2⟩
    · exact absurd h1 h2
    · exact h1
  · intro h
    exact ⟨.inr h, fun h2 => hn (h2 ▸ h)⟩
theorem wi_out {l : List Int} {id : Int} (h : jT l) (hm : id ∈ l) : wiT (outT l id) id = l := jG (rB (pD h)) h fun z => by
  rw [wiT_mem, outT_mem]
  constructor
  · rintro (h1 | h1)
    · rw [h1]; exact hm
    · exact h1.1
  · intro h
    by_cases c : z = id
    · exact .inl c
    · exact .inr ⟨h, c⟩
theorem tC (ha : N[hi]? = some a) (hb : N[lo]? = some b) (hne : lo ≠ hi) (e : Ent) : e ∈ fP (fW N lo hi id) ↔ e ∈ fP N := by
  rw [ents_mem, ents_mem]
  constructor
  · rintro ⟨j, x', hx, hu, rfl⟩
    obtain ⟨x, h1, h2, h3, _⟩ := oL ha hb hne hx
    exact ⟨j, x, h1, by rw [← h2]; exact hu, by rw [h3]⟩
  · rintro ⟨j, x, hx, hu, rfl⟩
    have : ∃ x', (if j = lo then some (b.1, b.2.1, wiS b.2.2.1 (id, (hi : Int) + 1), b.2.2.2) else if j = hi then some (a.1, a.2.1, a.2.2.1, wiS a.2.2.2 (id, (lo : Int) + 1)) else N[j]?) = some x' ∧ x'.1 = x.1 ∧ x'.2.1 = x.2.1 := by
      by_cases e : j = lo
      · rw [if_pos e]
        have hxb : x = b := by rw [e, hb] at hx; exact (Option.some.inj hx).symm
        exact ⟨_, rfl, by rw [hxb], by rw [hxb]⟩
      · rw [if_neg e]
        by_cases e2 : j = hi
        · rw [if_pos e2]
          have hxa : x = a := by rw [e2, ha] at hx; exact (Option.some.inj hx).symm
          exact ⟨_, rfl, by rw [hxa], by rw [hxa]⟩
        · rw [if_neg e2]; exact ⟨x, hx, rfl, rfl⟩
    obtain ⟨x', h1, h2, h3⟩ := this
    refine ⟨j, x', ?_, by rw [h2]; exact hu, by rw [h3]⟩
    rw [iO ha hb hne]; exact h1
theorem yY (hu : mH N) (ha : N[hi]? = some a) (hb : N[lo]? = some b) (hne : lo ≠ hi) : mH (fW N lo hi id) := by
  intro i j x' y' hx hy h1 h2 e
  obtain ⟨x, a1, a2, a3, _⟩ := oL ha hb hne hx
  obtain ⟨y, b1, b2, b3, _⟩ := oL ha hb hne hy
  exact hu i j x y a1 b1 (by rw [← a2]; exact h1) (by rw [← b2]; exact h2) (by rw [← a3, ← b3]; exact e)
theorem yD {N N' : List NM} (h1 : mH N) (h2 : mH N') (h : ∀ e, e ∈ fP N' ↔ e ∈ fP N) : iD N' = iD N := by
  rw [← iS, ← iS]
  exact (lZ (eY (dX h2)) (eY (dX h1)) h).length_eq
theorem yE {N N' : List NM} (h1 : mH N) (h2 : mH N') (h : ∀ e, e ∈ fP N' ↔ e ∈ fP N) : fP N' = fP N :=
  nX (lZ (eY (dX h2)) (eY (dX h1)) h) (dX h2) (kA _) (kA _)
theorem link_GR (g : GR N) (ha : N[hi]? = some a) (hb : N[lo]? = some b) (hua : a.1 = true) (hub : b.1 = true) (ht : a.2.1 = wiT b.2.1 id) (hn : id ∉ b.2.1) : lo ≠ hi ∧ GR (fW N lo hi id) ∧ fP (fW N lo hi id) = fP N := by
  have hne : lo ≠ hi := fun e => by
    rw [e, ha] at hb
    cases hb
    exact hn (by rw [ht]; exact wiT_mem.2 (.inl rfl))
  have huq : mH (fW N lo hi id) := yY g.uniq ha hb hne
  have hnew := fun {i : Nat} {x : NM} (hx : N[i]? = some x) => link_new g ha hb hua hub ht hn hne hx
  have hold := fun {i : Nat} {x : NM} (hx : (fW N lo hi id)[i]? = some x) => oL ha hb hne hx
  have hbt := (typeB_iff.1 (g.typ lo b hb hub)).2.1
  have hst : ∀ (i : Nat) (x x' : NM) (plus : Bool) (s : ST), x'.2.1 = x.2.1 → mR N i x plus s → mR (fW N lo hi id) i x' plus s := by
    rintro i x x' plus s e0 ⟨q, j, y, e1, e2, e3, e4, e5⟩
    obtain ⟨y', f1, f2, f3, f4, f5, _⟩ := hnew e2
    refine ⟨by rw [e0]; exact q, j, y', e1, f1, by rw [f2]; exact e3, by rw [f3, e4, e0], ?_⟩
    cases plus with
    | true => exact f5 _ e5
    | false => exact f4 _ e5
  refine ⟨hne, ⟨?_, ?_, fun i x' hx hu => ?_, huq, fun i x' hx hu => ?_, fun i x' hx => ?_, fun i x' hx s hs => ?_, fun i x' hx s hs => ?_, ?_⟩, yE g.uniq huq (tC ha hb hne)⟩
  · obtain ⟨x, hx, hu⟩ := g.last
    obtain ⟨x', f1, f2, _⟩ := hnew hx
    rw [lN]
    exact ⟨x', f1, by rw [f2]; exact hu⟩
  · obtain ⟨x, hx, hu, hxt⟩ := g.first
    obtain ⟨x', f1, f2, f3, _⟩ := hnew hx
    exact ⟨x', f1, by rw [f2]; exact hu, by rw [f3]; exact hxt⟩
  · obtain ⟨x, f1, f2, f3, _⟩ := hold hx
    rw [f3]
    exact g.typ i x f1 (by rw [← f2]; exact hu)
  · obtain ⟨x, f1, f2, f3, f4, f5⟩ := hold hx
    have hx0 := g.un i x f1 (by rw [← f2]; exact hu)
    rcases f4 with f4 | ⟨_, e, _⟩
    · rcases f5 with f5 | ⟨_, e, _⟩
      · obtain ⟨p1, p2, p3, p4⟩ := x'
        dsimp only at f2 f3 f4 f5
        rw [f2, f3, f4, f5, hx0]
      · rw [← e, ← f2, hu] at hua; cases hua
    · rw [← e, ← f2, hu] at hub; cases hub
  · obtain ⟨x, f1, f2, f3, f4, f5⟩ := hold hx
    obtain ⟨r1, r2⟩ := g.rise i x f1
    refine ⟨?_, ?_⟩
    · rcases f4 with f4 | ⟨_, _, f4⟩
      · rw [f4]; exact r1
      · rw [f4]; exact rD r1
    · rcases f5 with f5 | ⟨_, _, f5⟩
      · rw [f5]; exact r2
      · rw [f5]; exact rD r2
  · obtain ⟨x, f1, f2, f3, f4, f5⟩ := hold hx
    rcases f4 with f4 | ⟨ei, eb, f4⟩
    · rw [f4] at hs
      exact hst i x x' true s f3 (g.plus i x f1 s hs)
    · rw [f4] at hs
      rcases wiS_mem.1 hs with e | ⟨e, _⟩
      · obtain ⟨y', g1, g2, g3, _, _, _, g7⟩ := hnew ha
        subst e ei eb
        exact ⟨by rw [f3]; exact ⟨fun h => absurd h hn, fun h => by cases h⟩, hi, y', rfl, g1, by rw [g2]; exact hua, by rw [g3, f3]; exact ht, g7 rfl⟩
      · exact hst i x x' true s f3 (g.plus i x f1 s e)
  · obtain ⟨x, f1, f2, f3, f4, f5⟩ := hold hx
    rcases f5 with f5 | ⟨ei, ea, f5⟩
    · rw [f5] at hs
      exact hst i x x' false s f3 (g.less i x f1 s hs)
    · rw [f5] at hs
      rcases wiS_mem.1 hs with e | ⟨e, _⟩
      · obtain ⟨y', g1, g2, g3, _, _, g6, _⟩ := hnew hb
        subst e ei ea
        refine ⟨by rw [f3, ht]; exact ⟨fun _ => rfl, fun _ => wiT_mem.2 (.inl rfl)⟩, lo, y', rfl, g1, by rw [g2]; exact hub, ?_, g6 rfl⟩
        show y'.2.1 = outT x'.2.1 id
        rw [g3, f3, ht, yS hbt hn]
      · exact hst i x x' false s f3 (g.less i x f1 s e)
  · rw [yD g.uniq huq (tC ha hb hne)]; exact g.many
theorem wY (g : GR (fW N lo hi id)) (ha : N[hi]? = some a) (hb : N[lo]? = some b) (hne : lo ≠ hi) : fW (fW N lo hi id) lo hi id = fW N lo hi id := by
  have h1 : (fW N lo hi id)[lo]? = some (b.1, b.2.1, wiS b.2.2.1 (id, (hi : Int) + 1), b.2.2.2) := by rw [iO ha hb hne, if_pos rfl]
  have h2 : (fW N lo hi id)[hi]? = some (a.1, a.2.1, a.2.2.1, wiS a.2.2.2 (id, (lo : Int) + 1)) := by rw [iO ha hb hne, if_neg (fun e => hne e.symm), if_pos rfl]
  have r1 := (g.rise _ _ h1).1
  have r2 := (g.rise _ _ h2).2
  dsimp only at r1 r2
  apply List.ext_getElem?
  intro i
  rw [iO h2 h1 hne]
  dsimp only
  rw [rC r1 (wiS_mem.2 (.inl rfl)), rC r2 (wiS_mem.2 (.inl rfl))]
  by_cases e : i = lo
  · rw [if_pos e, e, h1]
  · rw [if_neg e]
    by_cases e2 : i = hi
    · rw [if_pos e2, e2, h2]
    · rw [if_neg e2]
end
abbrev fJ (l : List ST) (n : Int) : List ST := l.filter (fun s => !decide (s.2 = n))
def offN (p i : Nat) (x : NM) : NM := if i = p then n0 else (x.1, x.2.1, fJ x.2.2.1 ((p : Int) + 1), fJ x.2.2.2 ((p : Int) + 1))
def lO (l : List NM) : Nat → Nat
  | 0 => 0
  | k + 1 => if (l.getD k n0).1 then k + 1 else lO l k
theorem mC (l : List NM) : ∀ k, lO l k ≤ k ∧ (∀ i, lO l k ≤ i → i < k → (l.getD i n0).1 = false) ∧ (lO l k ≠ 0 → (l.getD (lO l k - 1) n0).1 = true)
  | 0 => ⟨Nat.le_refl _, fun i h1 h2 => by omega, fun h => absurd rfl h⟩
  | k + 1 => by
    unfold lO
    by_cases c : (l.getD k n0).1 = true
    · rw [if_pos c]
      exact ⟨Nat.le_refl _, fun i h1 h2 => by omega, fun _ => c⟩
    · rw [if_neg c]
      obtain ⟨h1, h2, h3⟩ := mC l k
      refine ⟨by omega, fun i a b => ?_, h3⟩
      by_cases e : i = k
      · rw [e]; simpa using c
      · exact h2 i a (by omega)
def uH (l : List NM) : List NM := l.take (lO l l.length)
def kJ (N : List NM) (p : Nat) : List NM := uH (N.mapIdx (offN p))
theorem vH {l : List NM} {i : Nat} {x : NM} : (uH l)[i]? = some x → l[i]? = some x ∧ i < lO l l.length := by
  intro h
  unfold uH at h
  have hl := (List.getElem?_eq_some_iff.1 h).1
  rw [List.length_take] at hl
  rw [List.getElem?_take_of_lt (by omega)] at h
  exact ⟨h, by omega⟩
theorem xX {l : List NM} {i : Nat} {x : NM} (h : l[i]? = some x) (hu : x.1 = true) : (uH l)[i]? = some x := by
  obtain ⟨h1, h2, _⟩ := mC l l.length
  have hl := (List.getElem?_eq_some_iff.1 h).1
  unfold uH
  rw [List.getElem?_take_of_lt]
  · exact h
  · refine Decidable.by_contra fun hc => ?_
    have := h2 i (by omega) hl
    rw [dR h, hu] at this; cases this
section
variable {N : List NM} {p : Nat} {a : NM}
theorem kC {i : Nat} {x' : NM} (hx : (kJ N p)[i]? = some x') : ∃ x, N[i]? = some x ∧ x' = offN p i x := by
  obtain ⟨h1, _⟩ := vH hx
  rw [List.getElem?_mapIdx] at h1
  cases hN : N[i]? with
  | none => rw [hN] at h1; cases h1
  | some x => rw [hN] at h1; cases h1; exact ⟨x, rfl, rfl⟩
theorem oR {i : Nat} {x : NM} (hx : N[i]? = some x) (hi : i ≠ p) (hu : x.1 = true) : (kJ N p)[i]? = some (offN p i x) := by
  refine xX ?_ ?_
  · rw [List.getElem?_mapIdx, hx]; rfl
  · unfold offN; rw [if_neg hi]; exact hu
theorem gU {i : Nat} {x : NM} (hi : i ≠ p) : offN p i x = (x.1, x.2.1, fJ x.2.2.1 ((p : Int) + 1), fJ x.2.2.2 ((p : Int) + 1)) := if_neg hi
theorem pS (ha : N[p]? = some a) (hua : a.1 = true) (hu : mH N) (e : Ent) : e ∈ fP (kJ N p) ↔ e ∈ fP N ∧ e ≠ (1, a.2.1, (p : Int) + 1) := by
  rw [ents_mem, ents_mem]
  constructor
  · rintro ⟨j, x', hx, h1, rfl⟩
    obtain ⟨x, h2, rfl⟩ := kC hx
    by_cases e : j = p
    · rw [e] at h1; unfold offN at h1; rw [if_pos rfl] at h1; cases h1
    · rw [gU e] at h1 ⊢
      refine ⟨⟨j, x, h2, h1, rfl⟩, fun h => e ?_⟩
      have := congrArg (fun x => x.2.2) h
      dsimp only at this
      omega
  · rintro ⟨⟨j, x, hx, h1, rfl⟩, hne⟩
    by_cases e : j = p
    · subst e
      rw [ha] at hx; cases hx
      exact absurd rfl hne
    · exact ⟨j, _, oR hx e h1, by rw [gU e]; exact h1, by rw [gU e]⟩
theorem pR (hu : mH N) : mH (kJ N p) := by
  intro i j x' y' hx hy h1 h2 e
  obtain ⟨x, a1, rfl⟩ := kC hx
  obtain ⟨y, b1, rfl⟩ := kC hy
  have ei : i ≠ p := fun c => by rw [c] at h1; unfold offN at h1; rw [if_pos rfl] at h1; cases h1
  have ej : j ≠ p := fun c => by rw [c] at h2; unfold offN at h2; rw [if_pos rfl] at h2; cases h2
  rw [gU ei] at h1 e
  rw [gU ej] at h2 e
  exact hu i j x y a1 b1 h1 h2 e
theorem zV (ha : N[p]? = some a) (hua : a.1 = true) (hu : mH N) : iD N = iD (kJ N p) + 1 := by
  rw [← iS, ← iS]
  have hp : (fP N).Perm ((1, a.2.1, (p : Int) + 1) :: fP (kJ N p)) := by
    refine lZ (eY (dX hu)) (List.pairwise_cons.2 ⟨fun y hy e => ((pS ha hua hu y).1 hy).2 e.symm, eY (dX (pR hu))⟩) fun e => ?_
    rw [List.mem_cons, pS ha hua hu]
    constructor
    · intro h
      by_cases c : e = (1, a.2.1, (p : Int) + 1)
      · exact .inl c
      · exact .inr ⟨h, c⟩
    · rintro (h | h)
      · rw [h]; exact ents_mem.2 ⟨p, a, ha, hua, rfl⟩
      · exact h.1
  rw [hp.length_eq, List.length_cons]
theorem drop_GR (g : GR N) (ha : N[p]? = some a) (hua : a.1 = true) (hp : p ≠ 0) : GR (kJ N p) := by
  obtain ⟨x0, hx0, hu0, ht0⟩ := g.first
  have hz : (kJ N p)[0]? = some (offN p 0 x0) := oR hx0 (fun e => hp e.symm) hu0
  have hlen := (List.getElem?_eq_some_iff.1 hz).1
  have hdl : (kJ N p).length = lO (N.mapIdx (offN p)) (N.mapIdx (offN p)).length := by
    unfold kJ uH
    rw [List.length_take]
    have := (mC (N.mapIdx (offN p)) (N.mapIdx (offN p)).length).1
    omega
  refine ⟨?_, ⟨_, hz, by rw [gU (fun e => hp e.symm)]; exact hu0, by rw [gU (fun e => hp e.symm)]; exact ht0⟩, fun i x' hx hu => ?_, pR g.uniq, fun i x' hx hu => ?_, fun i x' hx => ?_, fun i x' hx s hs => ?_, fun i x' hx s hs => ?_, by have := g.many; have := zV ha hua g.uniq; omega⟩
  · have hk : (kJ N p)[(kJ N p).length - 1]? = some ((kJ N p)[(kJ N p).length - 1]'(by omega)) := List.getElem?_eq_getElem (by omega)
    refine ⟨_, hk, ?_⟩
    obtain ⟨_, _, h3⟩ := mC (N.mapIdx (offN p)) (N.mapIdx (offN p)).length
    obtain ⟨h4, _⟩ := vH hk
    rw [← hdl] at h3
    have := h3 (by omega)
    rw [dR h4] at this
    exact this
  · obtain ⟨x, h1, rfl⟩ := kC hx
    have ei : i ≠ p := fun c => by rw [c] at hu; unfold offN at hu; rw [if_pos rfl] at hu; cases hu
    rw [gU ei] at hu ⊢
    exact g.typ i x h1 hu
  · obtain ⟨x, h1, rfl⟩ := kC hx
    by_cases ei : i = p
    · rw [ei]; unfold offN; rw [if_pos rfl]
    · rw [gU ei] at hu ⊢
      rw [g.un i x h1 hu]; rfl
  · obtain ⟨x, h1, rfl⟩ := kC hx
    by_cases ei : i = p
    · rw [ei]; unfold offN; rw [if_pos rfl]; exact ⟨List.Pairwise.nil, List.Pairwise.nil⟩
    · rw [gU ei]
      exact ⟨(g.rise i x h1).1.sublist List.filter_sublist, (g.rise i x h1).2.sublist List.filter_sublist⟩
  · obtain ⟨x, h1, rfl⟩ := kC hx
    by_cases ei : i = p
    · rw [ei] at hs; unfold offN at hs; rw [if_pos rfl] at hs; cases hs
    · rw [gU ei] at hs ⊢
      obtain ⟨s1, s2⟩ := List.mem_filter.1 hs
      obtain ⟨q, j, y, e1, e2, e3, e4, e5⟩ := g.plus i x h1 s s1
      have ej : j ≠ p := fun c => by rw [e1, c] at s2; simp at s2
      refine ⟨q, j, _, e1, oR e2 ej e3, by rw [gU ej]; exact e3, by rw [gU ej]; exact e4, ?_⟩
      rw [gU ej]
      exact List.mem_filter.2 ⟨e5, by simp; omega⟩
  · obtain ⟨x, h1, rfl⟩ := kC hx
    by_cases ei : i = p
    · rw [ei] at hs; unfold offN at hs; rw [if_pos rfl] at hs; cases hs
    · rw [gU ei] at hs ⊢
      obtain ⟨s1, s2⟩ := List.mem_filter.1 hs
      obtain ⟨q, j, y, e1, e2, e3, e4, e5⟩ := g.less i x h1 s s1
      have ej : j ≠ p := fun c => by rw [e1, c] at s2; simp at s2
      refine ⟨q, j, _, e1, oR e2 ej e3, by rw [gU ej]; exact e3, by rw [gU ej]; exact e4, ?_⟩
      rw [gU ej]
      exact List.mem_filter.2 ⟨e5, by simp; omega⟩
end
end Go.Eng
end
section
namespace Go.Eng
open Go.Proofs
set_option linter.unusedSimpArgs false
set_option linter.unusedVariables false
def goC (N : List NM) (n : Int) (id : Int) (plus : Bool) : Int :=
  if isM N n then
    (if plus then (if mayM id then (if id ∈ (dT N n).2.1 then 0 else if (dT N n).2.1.length = 12 then 6 else ofC N (wiT (dT N n).2.1 id)) else 2)
    else (if id ∈ (dT N n).2.1 then ofC N (outT (dT N n).2.1 id) else 4))
  else 2
def mS (N : List NM) (n : Int) (id : Int) (plus : Bool) : Bool := plus && decide (id ∈ (dT N n).2.1)
def goT (N : List NM) (n : Int) (id : Int) (plus : Bool) : List Int := gX plus (dT N n).2.1 id
def goQ (N : List NM) (n : Int) (id : Int) (plus : Bool) : Nat := ofn N (goT N n id plus)
def goL (N : List NM) (n : Int) (id : Int) (plus : Bool) : List NM :=
  if goC N n id plus = 0 then (if mS N n id plus then N else
    if plus then fW (ofL N (goT N n id plus)) (n - 1).toNat (goQ N n id plus - 1) id else fW (ofL N (goT N n id plus)) (goQ N n id plus - 1) (n - 1).toNat id) else []
def gon (N : List NM) (n : Int) (id : Int) (plus : Bool) : Int := if goC N n id plus = 0 then (if mS N n id plus then n else (goQ N n id plus : Int)) else 0
structure Gone (N : List NM) (n id : Int) (plus : Bool) (p q : Nat) (x y : NM) : Prop where
  np : n = (p : Int) + 1
  hx : N[p]? = some x
  xu : x.1 = true
  oc : ofC N (gX plus x.2.1 id) = 0
  hq : ofn N (gX plus x.2.1 id) = q + 1
  hp' : (ofL N (gX plus x.2.1 id))[p]? = some x
  hy : (ofL N (gX plus x.2.1 id))[q]? = some y
  yu : y.1 = true
  yt : y.2.1 = gX plus x.2.1 id
  gr : GR (ofL N (gX plus x.2.1 id))
  mem : id ∈ x.2.1 ↔ plus = false
theorem oO {N : List NM} {n id : Int} {plus : Bool} (g : GR N) (h : goC N n id plus = 0) :
    (mS N n id plus = true ∧ plus = true ∧ mayM id = true ∧ ∃ (p : Nat) (x : NM), n = (p : Int) + 1 ∧ N[p]? = some x ∧ x.1 = true ∧ id ∈ x.2.1) ∨
    (mS N n id plus = false ∧ ∃ p q x y, Gone N n id plus p q x y) := by
  unfold goC at h
  cases hi : isM N n with
  | false => rw [hi, if_neg (by decide)] at h; exact absurd h (by decide)
  | true =>
    rw [hi, if_pos rfl] at h
    obtain ⟨p, x, hn, hx, hu⟩ := isM_true.1 hi
    have hnd : dT N n = x := by rw [hn]; exact dM hx
    rw [hnd] at h
    unfold mS
    rw [hnd]
    have fin : ∀ (hm : id ∈ x.2.1 ↔ plus = false), ofC N (gX plus x.2.1 id) = 0 → ∃ p q x y, Gone N n id plus p q x y := by
      intro hm ho
      obtain ⟨g2, ⟨y, hy, hyu, hyt⟩, h1, hold⟩ := of_GR g ho
      exact ⟨p, ofn N (gX plus x.2.1 id) - 1, x, y, hn, hx, hu, ho, by omega, hold p x hx hu, hy, hyu, hyt, g2, hm⟩
    cases plus with
    | true =>
      rw [if_pos rfl] at h
      cases hm : mayM id with
      | false => rw [hm, if_neg (by decide)] at h; exact absurd h (by decide)
      | true =>
        rw [hm, if_pos rfl] at h
        by_cases c : id ∈ x.2.1
        · exact .inl ⟨by rw [decide_eq_true c]; rfl, rfl, rfl, p, x, hn, hx, hu, c⟩
        · rw [if_neg c] at h
          by_cases c2 : x.2.1.length = 12
          · rw [if_pos c2] at h; exact absurd h (by decide)
          · rw [if_neg c2] at h
            exact .inr ⟨by rw [decide_eq_false c]; rfl, fin ⟨fun h => absurd h c, fun h => by cases h⟩ h⟩
    | false =>
      rw [if_neg (by decide)] at h
      by_cases c : id ∈ x.2.1
      · rw [if_pos c] at h
        exact .inr ⟨rfl, fin ⟨fun _ => rfl, fun _ => c⟩ h⟩
      · rw [if_neg c] at h; exact absurd h (by decide)
section
variable {N : List NM} {n id : Int} {plus : Bool} {p q : Nat} {x y : NM}
abbrev loP (plus : Bool) (p q : Nat) : Nat := if plus then p else q
abbrev hiP (plus : Bool) (p q : Nat) : Nat := if plus then q else p
abbrev loX (plus : Bool) (x y : NM) : NM := if plus then x else y
abbrev hiX (plus : Bool) (x y : NM) : NM := if plus then y else x
theorem Gone.link (h : Gone N n id plus p q x y) (g : GR N) :
    (ofL N (gX plus x.2.1 id))[hiP plus p q]? = some (hiX plus x y) ∧ (ofL N (gX plus x.2.1 id))[loP plus p q]? = some (loX plus x y) ∧ (hiX plus x y).1 = true ∧ (loX plus x y).1 = true ∧ (hiX plus x y).2.1 = wiT (loX plus x y).2.1 id ∧ id ∉ (loX plus x y).2.1 := by
  have hr := (typeB_iff.1 (g.typ p x h.hx h.xu)).2.1
  cases plus with
  | true => exact ⟨h.hy, h.hp', h.yu, h.xu, h.yt, fun c => by have := h.mem.1 c; cases this⟩
  | false =>
    have e : y.2.1 = outT x.2.1 id := h.yt
    refine ⟨h.hp', h.hy, h.xu, h.yu, ?_, fun c => ?_⟩
    · show x.2.1 = wiT y.2.1 id
      rw [e, wi_out hr (h.mem.2 rfl)]
    · have c : id ∈ y.2.1 := c
      rw [e, outT_mem] at c
      exact c.2 rfl
theorem Gone.goL (h : Gone N n id plus p q x y) (hc : goC N n id plus = 0) (hs : mS N n id plus = false) : Eng.goL N n id plus = fW (ofL N (gX plus x.2.1 id)) (loP plus p q) (hiP plus p q) id ∧ Eng.gon N n id plus = (q : Int) + 1 := by
  have hnd : dT N n = x := by rw [h.np]; exact dM h.hx
  have hT : goT N n id plus = gX plus x.2.1 id := by unfold goT; rw [hnd]
  have hQ : goQ N n id plus = q + 1 := by unfold goQ; rw [hT, h.hq]
  have e1 : (n - 1).toNat = p := by rw [h.np]; omega
  refine ⟨?_, ?_⟩
  · unfold Eng.goL
    rw [if_pos hc, hs, if_neg (by decide), hT, hQ, e1, Nat.add_sub_cancel]
    cases plus <;> rfl
  · unfold gon
    rw [if_pos hc, hs, if_neg (by decide), hQ]; omega
theorem Gone.facts (h : Gone N n id plus p q x y) (g : GR N) : loP plus p q ≠ hiP plus p q ∧ GR (fW (ofL N (gX plus x.2.1 id)) (loP plus p q) (hiP plus p q) id) ∧ fP (fW (ofL N (gX plus x.2.1 id)) (loP plus p q) (hiP plus p q) id) = fP (ofL N (gX plus x.2.1 id)) := by
  obtain ⟨h1, h2, h3, h4, h5, h6⟩ := h.link g
  exact link_GR h.gr h1 h2 h3 h4 h5 h6
end
theorem go_GR {N : List NM} {n id : Int} {plus : Bool} (g : GR N) (h : goC N n id plus = 0) : GR (goL N n id plus) := by
  rcases oO g h with ⟨hs, _⟩ | ⟨hs, p, q, x, y, hg⟩
  · unfold goL; rw [if_pos h, if_pos hs]; exact g
  · rw [(hg.goL h hs).1]; exact (hg.facts g).2.1
end Go.Eng
end
section
namespace Go.Eng
open Go.RowKit
section
variable {P : Program} {f : FuncId} {ro : Option Nat} {n : Nat} {R : Value → World → Prop} {k : List Item} {ds : List Deferred} {env env0 : Env} {w0 w w' : World} {F : Nat → Prop}
variable {ops : Array Oper} {C : List HP}
theorem mK {u v : Value} {w w' : World} (h : Is u w v w') : v = u ∧ w' = w := h
theorem iM {a : Option Addr} {n c e sz k : Nat} {xs : List Value} (h : dV a k) : (Row a n c e sz xs).foot k := h
theorem J_drawW {id : Nat} (T : List Nat) (σ : List (Nat × Nat)) (τ : List Nat) {R0 : HP} (hs : St w0 F w (R0 :: C)) (hm : P.follows .mixedOrders = true) (hT : lF ops T = true) (hN : gJ ops T = true) (hp : iG ops.size T σ τ [] [] = true) (hlt : (fC σ ++ τ).all (fun i => Nat.blt i ops.size) = true) (hdst : ops.toList.all (nC n) = true)
    (hk : ∀ N, N = w.heap.size → JX P f ro n R ops T w0 F (fun k => R0.foot k ∨ N ≤ k) N C [] σ τ [] env k ds env (R0 :: C)) : J P f ro n R (.code (.region id ops true) :: k) ds env w :=
  sO T σ τ hs ⟨fun k hk hnF h => by
      rcases h with h | h
      · have := (hs.foot _ List.mem_cons_self k h).2.resolve_left hnF; omega
      · have := hs.frm.size; omega,
    fun c hc k hk h => by
      rcases h with h | h
      · exact (List.pairwise_cons.1 hs.sep).1 c hc k h hk
      · have := (hs.foot c (List.mem_cons_of_mem _ hc) k hk).1; omega,
    hs.sub (List.sublist_cons_self _ _), Nat.le_refl _⟩ hm hT hN hp hlt hdst (hk _ rfl)
theorem aAu {id : Nat} (T : List Nat) (σ : List (Nat × Nat)) (τ : List Nat) (A C0 : List HP) (hs : St w0 F w C) (hC : A ++ C0 = C) (hm : P.follows .mixedOrders = true) (hT : lF ops T = true) (hN : gJ ops T = true) (hp : iG ops.size T σ τ [] [] = true) (hlt : (fC σ ++ τ).all (fun i => Nat.blt i ops.size) = true) (hdst : ops.toList.all (nC n) = true)
    (hk : ∀ Z : Nat → Prop, (∀ k, Z k ↔ ((F k ∨ w0.heap.size ≤ k) ∧ ∀ c ∈ C0, ¬ c.foot k)) → JX P f ro n R ops T w0 F Z 0 C0 [] σ τ [] env k ds env C) : J P f ro n R (.code (.region id ops true) :: k) ds env w :=
  sO T σ τ hs ⟨fun k hk hnF h => by
      rcases h.1 with h | h
      · exact hnF h
      · omega,
    fun c hc k hk h => h.2 c hc hk,
    hs.sub (by rw [← hC]; exact List.sublist_append_right _ _), Nat.zero_le _⟩ hm hT hN hp hlt hdst (hk _ (fun _ => Iff.rfl))
theorem St.zfoot {Z : Nat → Prop} {A C0 : List HP} (hs : St w0 F w (A ++ C0)) (hZ : ∀ k, Z k ↔ ((F k ∨ w0.heap.size ≤ k) ∧ ∀ c ∈ C0, ¬ c.foot k)) : ∀ k, (Star A).foot k → Z k := fun k ⟨c, hc, hk⟩ =>
  (hZ k).2 ⟨(hs.foot c (List.mem_append_left _ hc) k hk).2, fun d hd hkd => (List.pairwise_append.1 hs.sep).2.2 c hc d hd k hk hkd⟩
theorem St.rlV {Z : Nat → Prop} {A C0 : List HP} {W : World} (hs : St w0 F w (A ++ C0)) (hZ : ∀ k, Z k ↔ ((F k ∨ w0.heap.size ≤ k) ∧ ∀ c ∈ C0, ¬ c.foot k)) (hr : Rl Z w W) : St w0 F W C0 :=
  (ZOk.rl (w0 := w0) (F := F) (Z := Z) (N0 := 0) (C0 := C0) ⟨fun k hk hnF h => by
      rcases ((hZ k).1 h).1 with h | h
      · exact hnF h
      · omega,
    fun c hc k hk h => ((hZ k).1 h).2 c hc hk, hs.sub (List.sublist_append_right _ _), Nat.zero_le _⟩ hr).st
variable {T : List Nat} {X : Nat → Prop} {σ : List (Nat × Bool)} {τ : List Nat} {D : List (Nat × Value)}
theorem jB (l : List Nat) (hne : (σ.map (·.1) ++ τ).isEmpty = false) (hl : cand ops.size T (σ.map (·.1) ++ τ) (D.map (·.1)) = l) (h : AllL (JDH P f ro n R ops T X σ τ D env0 k ds env w) l) : JD P f ro n R ops T X σ τ D env0 k ds env w := JD_any hne (by rw [hl]; exact h)
variable {op : Op} {ty : TypeId} {pos : String} {af : Array Edge}
theorem lX {i t : Nat} {S : Value → World → Prop} (σ' : List (Nat × Bool)) (hσ : σ.filter (fun x => x.1 != i) = σ') (hp' : planOk ops.size T σ' τ (i :: D.map (·.1)) = true) (hm1 : (σ.map (·.1) ++ τ).all (fun x => x == i || (σ'.map (·.1) ++ τ).contains x) = true)
    (hm2 : (σ'.map (·.1) ++ τ).all (fun x => x != i && (σ.map (·.1) ++ τ).contains x) = true) (ho : ops[i]? = some ⟨some t, op, ty, pos, af, none⟩) (hnd : dC op = true) (h : OpR P env ⟨some t, op, ty, pos, af, none⟩ w S) (hS : ∀ v w', S v w' → Rl X w w')
    (hk : ∀ v w', S v w' → JD P f ro n R ops T X σ' τ ((i, v) :: D) env0 k ds ((t, v) :: env) w') : JDH P f ro n R ops T X σ τ D env0 k ds env w i := by
  subst hσ; exact wH hp' hm1 hm2 ho (kF rfl h) hS hnd hk
theorem aAx {i : Nat} {S : Value → World → Prop} (σ' : List (Nat × Bool)) (hσ : σ.filter (fun x => x.1 != i) = σ') (hp' : planOk ops.size T σ' τ (i :: D.map (·.1)) = true) (hm1 : (σ.map (·.1) ++ τ).all (fun x => x == i || (σ'.map (·.1) ++ τ).contains x) = true)
    (hm2 : (σ'.map (·.1) ++ τ).all (fun x => x != i && (σ.map (·.1) ++ τ).contains x) = true) (ho : ops[i]? = some ⟨none, op, ty, pos, af, none⟩) (hnd : dC op = true) (h : OpR P env ⟨none, op, ty, pos, af, none⟩ w S) (hS : ∀ v w', S v w' → Rl X w w')
    (hk : ∀ v w', S v w' → JD P f ro n R ops T X σ' τ ((i, v) :: D) env0 k ds env w') : JDH P f ro n R ops T X σ τ D env0 k ds env w i := by
  subst hσ; exact wH hp' hm1 hm2 ho (kF rfl h) hS hnd hk
end
end Go.Eng
end
section
namespace Go.Eng
open Go.Proofs
set_option linter.unusedSimpArgs false
set_option linter.unusedVariables false
theorem rV (rs : List RNd) : (encL cNd rs).length = rs.length * 4 := fL (d := dRNd) rs
theorem encE_len (rs : List REnt) : (encL cU rs).length = rs.length * 3 := fL (d := gF) rs
abbrev LMax (E : List Ent) : Prop := ∀ x ∈ E, x.2.1.length ≤ 1000000
theorem zR (rs : List RNd) (k : Nat) (r : RNd) (a : Option Addr) (m c : Nat) (hr : rs[k]? = some r) : bY (encL cNd rs) (k * 4 + 1) [.slice a m c] = encL cNd (rs.set k (r.1, (a, m, c), r.2.2)) := pQ (d := dRNd) rs k 1 r _ _ hr (by show 1 + 1 ≤ 4; omega) rfl
theorem pO (rs : List RNd) (k : Nat) (r : RNd) (a : Option Addr) (m c : Nat) (hr : rs[k]? = some r) : bY (encL cNd rs) (k * 4 + 2) [.slice a m c] = encL cNd (rs.set k (r.1, r.2.1, (a, m, c), r.2.2.2)) := pQ (d := dRNd) rs k 2 r _ _ hr (by show 2 + 1 ≤ 4; omega) rfl
theorem pN (rs : List RNd) (k : Nat) (r : RNd) (a : Option Addr) (m c : Nat) (hr : rs[k]? = some r) : bY (encL cNd rs) (k * 4 + 3) [.slice a m c] = encL cNd (rs.set k (r.1, r.2.1, r.2.2.1, (a, m, c))) := pQ (d := dRNd) rs k 3 r _ _ hr (by show 3 + 1 ≤ 4; omega) rfl
theorem zM {α : Type} {l1 l2 : List α} {k : Nat} {r : α} (h : l1.length = k) (hr : l2[k]? = some r) : (l1 ++ l2.drop k)[k]? = some r := by rw [List.getElem?_append_right (by omega), h, Nat.sub_self, List.getElem?_drop, Nat.add_zero]; exact hr
theorem nm_eq {x y : NM} : x = y ↔ x.1 = y.1 ∧ x.2.1 = y.2.1 ∧ x.2.2.1 = y.2.2.1 ∧ x.2.2.2 = y.2.2.2 := by
  obtain ⟨a, b, c, d⟩ := x
  obtain ⟨a2, b2, c2, d2⟩ := y
  simp
theorem vG (xs : List Int) : sR xs = encL cId xs := (vY xs).symm
attribute [local irreducible] Hold J JL JD JX JXat OpR OpG Ret RetV Is Blk Row
set_option maxRecDepth 100000
set_option maxHeartbeats 2000000
theorem aAb (w : World) (a : Option Addr) (n c : Nat) (rs : List RNd) (h : Sl dRNd All w a n c rs) (hn : n ≤ 1000000) :
    Ret Tryz.prog 178 #[.slice a n c] w fun v w' => ∃ a', v = .slice a' n n ∧ Fresh w w' [TabN a' n n rs] := by
  refine cJ (l := [_]) Tryz.func178 rfl Tryz.ntmps178 (by simp) ?_
  have hs := St.init w
  obtain ⟨hsrc, hpl, _⟩ := h.srcF
  have hl := h.len
  have hE0 : (encL cNd rs).length = n * 4 := by rw [rV, hl]
  repeat' (first | ((apply aH (t := 6); refine JL_o (by apply fQ; exact kE hs rfl rfl (by omega) (by omega)) rfl rfl ?_; rintro _ _ ⟨b8, rfl, hb8, hs, hE⟩; have hs := hs.toRow 0 n n 4 (Nat.le_refl _) (by unfold maxLen; omega) (by simp [madeCells]) rfl)) | ((apply aH (t := 9); refine JL_o (by apply gN; exact gP (sz := 4) (off := 0) (vs := encL cNd rs) (a := some ⟨b8, 0, none⟩) (n := n) (c := n) (by omega) hs rfl rfl (fun _ => rfl) (by omega) (by rw [Nat.min_self]; exact Src.st hsrc hs) (by rw [Nat.min_self]; exact hpl)) rfl rfl ?_; rintro _ _ ⟨rfl, hs, hF⟩; rw [jL 4 (by rw [hE0]; simp [madeCells])] at hs)) | (apply aU) | ((apply aK); (first | (apply aQ; exact aJ rfl aA) | (apply aF; exact aC rfl aA) | (apply bO; exact bZ rfl aA)); first | (exact rfl; exact rfl) | exact rfl) | (apply bC) | (apply aG))
  refine aZ Tryz.func178 rfl (.tmp rfl .nil) ⟨_, rfl, hs.out (List.Sublist.refl _)⟩
theorem aAc (w : World) (a : Option Addr) (n c : Nat) (rs : List REnt) (h : Sl gF All w a n c rs) (hn : n ≤ 1048576) :
    Ret Tryz.prog 179 #[.slice a n c] w fun v w' => ∃ a', v = .slice a' n n ∧ Fresh w w' [dN a' n n rs] := by
  refine cJ (l := [_]) Tryz.func179 rfl Tryz.ntmps179 (by simp) ?_
  have hs := St.init w
  obtain ⟨hsrc, hpl, _⟩ := h.srcF
  have hl := h.len
  have hE0 : (encL cU rs).length = n * 3 := by rw [encE_len, hl]
  repeat' (first | ((apply aH (t := 6); refine JL_o (by apply fQ; exact kE hs rfl rfl (by omega) (by omega)) rfl rfl ?_; rintro _ _ ⟨b8, rfl, hb8, hs, hE⟩; have hs := hs.toRow 0 n n 3 (Nat.le_refl _) (by unfold maxLen; omega) (by simp [madeCells]) rfl)) | ((apply aH (t := 9); refine JL_o (by apply gN; exact gP (sz := 3) (off := 0) (vs := encL cU rs) (a := some ⟨b8, 0, none⟩) (n := n) (c := n) (by omega) hs rfl rfl (fun _ => rfl) (by omega) (by rw [Nat.min_self]; exact Src.st hsrc hs) (by rw [Nat.min_self]; exact hpl)) rfl rfl ?_; rintro _ _ ⟨rfl, hs, hF⟩; rw [jL 3 (by rw [hE0]; simp [madeCells])] at hs)) | (apply aU) | ((apply aK); (first | (apply aQ; exact aJ rfl aA) | (apply aF; exact aC rfl aA) | (apply bO; exact bZ rfl aA)); first | (exact rfl; exact rfl) | exact rfl) | (apply bC) | (apply aG))
  refine aZ Tryz.func179 rfl (.tmp rfl .nil) ⟨_, rfl, hs.out (List.Sublist.refl _)⟩
-- WROW 107 5 : [1, 0, 2, 3, 4, 5]
theorem tE (w : World) (a a2 : Option Addr) (n c n2 c2 : Nat) (N : List NM) (E : List Ent) (h : Sl jA All w a n c N) (hE0 : Sl dEnt All w a2 n2 c2 E) (hn : n ≤ 1000000) (hn2 : n2 ≤ 1048576) (hz : szN N) (hze : LMax E) :
    Ret Tryz.prog 107 #[.agg #[.slice a n c, .slice a2 n2 c2]] w fun v w' => ∃ (qs : List QN) (rs' : List REnt) (a' a2' : Option Addr), (qs.map iX = N ∧ ∀ q ∈ qs, okN q) ∧ v = .agg #[.slice a' n n, .slice a2' n2 n2] ∧ Fresh w w' [TabN a' n n (qs.map rawN), OwnN qs, dN a2' n2 n2 rs', Own rs' E] := by
  refine cJ (l := [_]) Tryz.func107 rfl Tryz.ntmps107 (by simp) ?_
  have hs := St.init w
  have hl := h.len
  have hl2 := hE0.len
  have hNo := sU h
  have hEo := oK hE0
  obtain ⟨rs, hr, hm⟩ := Sl.raw (D := mX) h
  obtain ⟨re, hre, hme⟩ := Sl.raw (D := lE) hE0
  have hlr := hr.len
  have hlre := hre.len
  repeat' (first | ((apply ax_c; apply eH 178; exact rfl; (intro W X hN hs; exact aB en178 rfl (aAb _ a n c rs (hr.st hs) hn)); (rintro _ _ _ _ ⟨a1, rfl, hf⟩; first | exact hE | exact Fresh.ext hf); rintro W X _ _ hN hs ⟨a1, rfl, hf⟩; have hs := hs.fresh hf; (try simp only [zcc] at hs); refine JX.at hs ?_)) | ((apply ax_c; apply eH 179; exact rfl; (intro W X hN hs; exact aB en179 rfl (aAc _ a2 n2 c2 re (hre.st hs) hn2)); (rintro _ _ _ _ ⟨a3, rfl, hf⟩; first | exact hE | exact Fresh.ext hf); rintro W X _ _ hN hs ⟨a3, rfl, hf⟩; have hs := hs.fresh hf; (try simp only [zcc] at hs); refine JX.at hs ?_)) | (apply aU) | ((first | (apply aK) | (apply JX_f; exact rfl; intro W X hs)); (first | (apply aQ; exact aJ rfl aA) | (apply aS; first | exact aN rfl rfl aA | exact bJ rfl rfl aA) | (apply aX; exact aW hs rfl rfl aA) | (apply bO; exact bZ rfl aA)); first | (exact rfl; exact rfl) | exact rfl) | (apply bC) | (apply aG) | (apply bD) | (apply aH (t := 1); refine JL_o (by apply cA; exact bE hs rfl) rfl rfl ?_; rintro _ _ ⟨b1, rfl, hb1, hs, hE⟩) | (apply aH (t := 2); refine JL_o (by apply bA; exact aR hs) rfl rfl ?_; rintro _ _ ⟨b2, rfl, hb2, hs, hE⟩) | (apply bI; refine JL_u (by apply bB; exact aY hs rfl rfl rfl) rfl ?_; rintro _ _ ⟨hs, hF⟩) | (apply cZ; (refine dD (id := 1) [0, 1, 3, 0, 8, 24, 63, 63, 255, 511, 1023, 2047] [(0, 0), (1, 0), (3, 0), (4, 0), (5, 0), (2, 1), (7, 0), (6, 1)] [8, 9, 10, 11] hs eQ (by kernel_rfl) (by kernel_rfl) (by kernel_rfl) (by kernel_rfl) (by kernel_rfl) ?_)) | (refine cX (fun W hs => ?_)) | (apply fE; case' hos => (simp only [List.map_cons, List.map_nil, List.getElem?_toArray, List.getElem?_cons_succ, List.getElem?_cons_zero]; repeat' (first | exact gI | apply fD))))
  have hs := hs.nilN
  refine dK (α := Nat × List QN) [(1, _), (2, _), (18, _), (19, _)] (fun g => [(20, .int .i64 g.1)]) (fun g w' => St w NoF w' [TabN a1 n n (g.2.map rawN ++ rs.drop g.1), OwnN g.2, dN a3 n2 n2 re, Blk b2 (.cells #[.slice none 0 0, .slice none 0 0] 57 (0, 0)), Blk b1 (.cells #[.slice a1 n n, .slice a3 n2 n2] 57 (0, 0))] ∧ (g.2.map iX = N.take g.1 ∧ ∀ q ∈ g.2, okN q) ∧ g.1 ≤ n) (fun g => n - g.1) (0, []) ⟨hs.sel [2, 0, 1, 3, 4] (by decide), ⟨rfl, fun q hq => by cases hq⟩, Nat.zero_le _⟩ zss ?_
  rintro ⟨k, qs⟩ w2 ⟨hs1, ⟨hqm, hqo⟩, hk⟩ ih
  dsimp only at hs1 hqm hqo hk ih ⊢
  have hql : qs.length = k := by have := congrArg List.length hqm; rw [List.length_map, List.length_take] at this; omega
  by_cases hlt : k < n
  · obtain ⟨b, o, rfl⟩ := (hs1.row a1 n n).some (by omega)
    have hs : St w NoF w2 [_, _, _, _, _] := hs1
    have hx : N[k]? = some (N[k]'(by omega)) := List.getElem?_eq_getElem (by omega)
    obtain ⟨x, hxd⟩ : ∃ x, x = N[k]'(by omega) := ⟨_, rfl⟩
    rw [← hxd] at hx
    obtain ⟨z1, z2, z3⟩ := hz x (List.mem_of_getElem? hx)
    obtain ⟨o1, o2, o3⟩ := hNo x (List.mem_of_getElem? hx)
    obtain ⟨r, hrx, f1, f2, f3, f4⟩ := hm.get hx
    have f1 : r.1 = x.1 := f1
    have m1 : Sl dId All w r.2.1.1 r.2.1.2.1 r.2.1.2.2 x.2.1 := f2
    have m2 : Sl dStp All w r.2.2.1.1 r.2.2.1.2.1 r.2.2.1.2.2 x.2.2.1 := f3
    have m3 : Sl dStp All w r.2.2.2.1 r.2.2.2.2.1 r.2.2.2.2.2 x.2.2.2 := f4
    have l1 := m1.len
    have l2 := m2.len
    have l3 := m3.len
    obtain ⟨R0, hR0⟩ : ∃ R0, R0 = qs.map rawN ++ rs.drop k := ⟨_, rfl⟩
    have hcur : R0[k]? = some r := by rw [hR0]; exact zM (by rw [List.length_map]; exact hql) hrx
    have hR0l : k < R0.length := (List.getElem?_eq_some_iff.1 hcur).1
    have hld : ∀ (q : Nat) (u : Value), (cNd r)[q]? = some u → (encL cNd R0)[k * 4 + q]? = some u := fun q u hq => by
      have hq4 : q < 4 := (List.getElem?_eq_some_iff.1 hq).1
      rw [show (encL cNd R0)[k * 4 + q]? = (cNd r)[q]? from fM (d := dRNd) R0 k q r hcur hq4]; exact hq
    have hg1 : ∀ q1, (R0.set k (r.1, q1, r.2.2))[k]? = some (r.1, q1, r.2.2) := fun q1 => List.getElem?_set_self hR0l
    have hg2 : ∀ q1 q2, (R0.set k (r.1, q1, q2, r.2.2.2))[k]? = some (r.1, q1, q2, r.2.2.2) := fun q1 q2 => List.getElem?_set_self hR0l
    have hset1 : ∀ (a : Option Addr) (m c : Nat), bY (encL cNd R0) (k * 4 + 1) [.slice a m c] = encL cNd (R0.set k (r.1, (a, m, c), r.2.2)) := fun a m c => zR R0 k r a m c hcur
    have hset2 : ∀ q1 (a : Option Addr) (m c : Nat), bY (encL cNd (R0.set k (r.1, q1, r.2.2))) (k * 4 + 2) [.slice a m c] = encL cNd (R0.set k (r.1, q1, (a, m, c), r.2.2.2)) := fun q1 a m c => (pO _ k _ a m c (hg1 q1)).trans (by rw [List.set_set])
    have hset3 : ∀ q1 q2 (a : Option Addr) (m c : Nat), bY (encL cNd (R0.set k (r.1, q1, q2, r.2.2.2))) (k * 4 + 3) [.slice a m c] = encL cNd (R0.set k (r.1, q1, q2, (a, m, c))) := fun q1 q2 a m c => (pN _ k _ a m c (hg2 q1 q2)).trans (by rw [List.set_set])
    have hmid : ∀ q, R0.set k q = (qs.map rawN ++ [q]) ++ rs.drop (k + 1) := fun q => by rw [hR0]; exact oZ _ rs k q (by rw [List.length_map]; exact hql) (by omega)
    have htk : N.take (k + 1) = N.take k ++ [x] := by rw [List.take_add_one, hx]; rfl
    rw [← hR0] at hs
    repeat' (first | ((apply ax_c; apply eH 114; exact rfl; (intro W X hN hs; exact aB zT rfl (lU _ r.2.1.1 r.2.1.2.1 r.2.1.2.2 x.2.1 (m1.st hs) (by omega))); (rintro _ _ _ _ ⟨a5, rfl, hf⟩; first | exact hE | exact Fresh.ext hf); rintro W X _ _ hN hs ⟨a5, rfl, hf⟩; have hs := hs.fresh hf; (try simp only [zcc] at hs); refine JX.at hs ?_)) | ((apply ax_c; apply eH 180; exact rfl; (intro W X hN hs; exact aB en180 rfl (tV _ r.2.2.1.1 r.2.2.1.2.1 r.2.2.1.2.2 x.2.2.1 (m2.st hs) (by omega))); (rintro _ _ _ _ ⟨a6, rfl, hf⟩; first | exact hE | exact Fresh.ext hf); rintro W X _ _ hN hs ⟨a6, rfl, hf⟩; have hs := hs.fresh hf; (try simp only [zcc] at hs); refine JX.at hs ?_)) | ((apply ax_c; apply eH 180; exact rfl; (intro W X hN hs; exact aB en180 rfl (tV _ r.2.2.2.1 r.2.2.2.2.1 r.2.2.2.2.2 x.2.2.2 (m3.st hs) (by omega))); (rintro _ _ _ _ ⟨a7, rfl, hf⟩; first | exact hE | exact Fresh.ext hf); rintro W X _ _ hN hs ⟨a7, rfl, hf⟩; have hs := hs.fresh hf; (try simp only [zcc] at hs); refine JX.at hs ?_)) | ((apply ax_c; apply JX_cu; exact rfl; (intro W X hN hs; apply bB; exact dQ (b := b) (o := o) (off := k * 4 + 1) (n := n) (c := n) (vs := [.slice a5 r.2.1.2.1 r.2.1.2.1]) hs rfl rfl rfl rfl (by simp [Value.oneCell']) (by show k * 4 + 1 + 1 ≤ n * 4; omega)); (rintro _ _ _ _ ⟨_, hF⟩; exact Frm.rlZ hF (fun k hk => .inl (iM hk))); exact rfl; rintro W X _ _ hN hs0 ⟨hs, hF⟩; rw [hset1] at hs; refine JX.at hs ?_)) | ((apply ax_c; apply JX_cu; exact rfl; (intro W X hN hs; apply bB; exact dQ (b := b) (o := o) (off := k * 4 + 2) (n := n) (c := n) (vs := [.slice a6 r.2.2.1.2.1 r.2.2.1.2.1]) hs rfl rfl rfl rfl (by simp [Value.oneCell']) (by show k * 4 + 2 + 1 ≤ n * 4; omega)); (rintro _ _ _ _ ⟨_, hF⟩; exact Frm.rlZ hF (fun k hk => .inl (iM hk))); exact rfl; rintro W X _ _ hN hs0 ⟨hs, hF⟩; rw [hset2] at hs; refine JX.at hs ?_)) | ((apply bI; refine JL_u (by apply bB; exact dQ (b := b) (o := o) (off := k * 4 + 3) (n := n) (c := n) (vs := [.slice a7 r.2.2.2.2.1 r.2.2.2.2.1]) hs rfl rfl rfl rfl (by simp [Value.oneCell']) (by show k * 4 + 3 + 1 ≤ n * 4; omega)) rfl ?_; rintro _ _ ⟨hs, hF⟩; rw [hset3] at hs)) | (apply aU) | ((first | (apply aK) | (apply qE; exact rfl; intro W hs)); (first | (apply aX; first | exact aW hs rfl rfl aA | exact aI hs rfl aA | exact jQ (b := b) (o := o) (off := k * 4) (n := n) (c := n) hs rfl rfl hld aA) | (apply aQ; exact aJ rfl aA) | (apply aF; exact aC rfl aA) | (apply aS; first | exact aN rfl rfl aA | exact bJ rfl rfl aA) | (apply cO; exact bT rfl rfl (by omega) (by first | (simp only [Int.reduceAdd]; exact rfl) | exact rfl) aA) | (apply aL; exact aM rfl rfl rfl aA) | (apply aP; exact aO rfl rfl (by omega) (by omega) aA)); first | (exact rfl; exact rfl) | exact rfl) | (apply bC) | (apply aG) | (apply bD) | (apply bP) | (apply bK) | (apply aH (t := 4); refine JL_o (by apply bA; exact aR hs) rfl rfl ?_; rintro _ _ ⟨b4, rfl, hb4, hs, hE⟩) | (apply bI; refine JL_u (by apply bB; exact aY hs rfl rfl rfl) rfl ?_; rintro _ _ ⟨hs, hF⟩) | (apply aT; refine bH rfl ob ?_) | (apply cZ; (refine J_drawW (id := 5) [0, 1, 0, 0, 8, 0, 0, 64, 0, 0, 512, 1536, 0, 4096, 15872, 0, 32768, 130560, 261639, 523783, 1048071, 2096703, 4193855, 8388159, 16777215, 33554431, 67108863] [(0, 0), (1, 0), (2, 0), (3, 0), (4, 0), (5, 0), (6, 0), (7, 0), (8, 0), (9, 0), (10, 0), (12, 0), (13, 0), (15, 0), (16, 0), (11, 1), (14, 1), (17, 1), (18, 0), (19, 0), (20, 1), (21, 0), (22, 0), (23, 1), (24, 0), (25, 0)] [26] (show St _ _ _ [_, _, _, _, _, _] from hs.sel [1, 0, 2, 3, 4, 5] (by decide)) eQ (by kernel_rfl) (by kernel_rfl) (by kernel_rfl) (by kernel_rfl) (by kernel_rfl) ?_; intro NZ hNZ)) | (refine cX (fun W hs => ?_)) | (apply fE; case' hos => (simp only [List.map_cons, List.map_nil, List.getElem?_toArray, List.getElem?_cons_succ, List.getElem?_cons_zero]; repeat' (first | exact gI | apply fD))))
    rw [hmid] at hs
    obtain ⟨q, hq⟩ : ∃ q : QN, q = (r.1, ((a5, r.2.1.2.1, r.2.1.2.1), x.2.1), ((a6, r.2.2.1.2.1, r.2.2.1.2.1), x.2.2.1), ((a7, r.2.2.2.2.1, r.2.2.2.2.1), x.2.2.2)) := ⟨_, rfl⟩
    have hs := St.packN (q := (r.1, ((a5, r.2.1.2.1, r.2.1.2.1), x.2.1), ((a6, r.2.2.1.2.1, r.2.2.1.2.1), x.2.2.1), ((a7, r.2.2.2.2.1, r.2.2.2.2.1), x.2.2.2))) (L := [OwnN qs, _, _, _, _]) (hs.sel [2, 1, 0, 5, 3, 6, 7, 8] (by decide))
    rw [← hq] at hs
    have hs := St.pushN hs
    have hmp : (qs ++ [q]).map rawN = qs.map rawN ++ [(r.1, (a5, r.2.1.2.1, r.2.1.2.1), (a6, r.2.2.1.2.1, r.2.2.1.2.1), (a7, r.2.2.2.2.1, r.2.2.2.2.1))] := by rw [List.map_append, hq]; rfl
    have hqok : okN q := by rw [hq]; exact ⟨⟨l1.symm, o1⟩, ⟨l2.symm, o2⟩, ⟨l3.symm, o3⟩⟩
    have hqm2 : iX q = x := by rw [hq]; exact nm_eq.2 ⟨f1, rfl, rfl, rfl⟩
    refine ih (k + 1, qs ++ [q]) _ _ ⟨by dsimp only; rw [hmp]; exact hs.sel [1, 0, 2, 3, 4] (by decide), ⟨by dsimp only; rw [List.map_append, hqm, htk]; rw [List.map_cons, hqm2]; rfl, fun u hu => ?_⟩, by dsimp only; omega⟩ (by dsimp only; omega) zss
    rcases List.mem_append.1 hu with e | e
    · exact hqo u e
    · rw [List.mem_singleton.1 e]; exact hqok
  · have hkn : k = n := by omega
    rw [hkn, List.drop_of_length_le (by omega), List.append_nil] at hs1
    rw [hkn, List.take_of_length_le (by omega)] at hqm
    have hs : St w NoF w2 [_, _, _, _, _] := hs1
    repeat' (first | (apply aU) | ((apply aK); (first | (apply aQ; exact aJ rfl aA) | (apply aS; first | exact aN rfl rfl aA | exact bJ rfl rfl aA) | (apply aX; exact aW hs rfl rfl aA) | (apply aL; exact aM rfl rfl rfl aA) | (apply bO; exact bZ rfl aA)); first | (exact rfl; exact rfl) | exact rfl) | (apply bC) | (apply aG) | (apply bD) | (apply cK; refine cY rfl ?_) | (apply aT; refine bL rfl ob ?_))
    clear ih
    have hs := hs.nilOwn
    refine dK (α := Nat × List REnt) [(1, _), (2, _), (52, _), (53, _)] (fun g => [(54, .int .i64 g.1)]) (fun g w' => St w NoF w' [dN a3 n2 n2 (g.2 ++ re.drop g.1), Own g.2 (E.take g.1), TabN a1 n n (qs.map rawN), OwnN qs, Blk b2 (.cells #[.slice none 0 0, .slice none 0 0] 57 (0, 0)), Blk b1 (.cells #[.slice a1 n n, .slice a3 n2 n2] 57 (0, 0))] ∧ g.2.length = g.1 ∧ g.1 ≤ n2) (fun g => n2 - g.1) (0, []) ⟨hs.sel [3, 0, 1, 2, 4, 5] (by decide), rfl, Nat.zero_le _⟩ zss ?_
    rintro ⟨k2, rs3⟩ w3 ⟨hs2, hk3, hk2⟩ ih
    dsimp only at hs2 hk3 hk2 ih ⊢
    by_cases hlt2 : k2 < n2
    · obtain ⟨b, o, rfl⟩ := (hs2.row a3 n2 n2).some (by omega)
      have hs : St w NoF w3 [_, _, _, _, _, _] := hs2
      have hx : E[k2]? = some (E[k2]'(by omega)) := List.getElem?_eq_getElem (by omega)
      obtain ⟨x, hxd⟩ : ∃ x, x = E[k2]'(by omega) := ⟨_, rfl⟩
      rw [← hxd] at hx
      obtain ⟨r, hrx, hrel⟩ := hme.get hx
      obtain ⟨ok1, ok2, ok3⟩ := hEo x (List.mem_of_getElem? hx)
      have ok4 := hze x (List.mem_of_getElem? hx)
      have e1 : r.1 = x.1 := hrel.1
      have e3 : r.2.2 = x.2.2 := hrel.2.2
      have m2 : Sl dId All w r.2.1.1 r.2.1.2.1 r.2.1.2.2 x.2.1 := hrel.2.1
      have mlen := m2.len
      have hcur : (rs3 ++ re.drop k2)[k2]? = some r := zM hk3 hrx
      have hld : ∀ (q : Nat) (u : Value), (cU r)[q]? = some u → (encL cU (rs3 ++ re.drop k2))[k2 * 3 + q]? = some u := fun q u hq => by
        have hq3 : q < 3 := (List.getElem?_eq_some_iff.1 hq).1
        rw [show (encL cU (rs3 ++ re.drop k2))[k2 * 3 + q]? = (cU r)[q]? from fM (d := gF) (rs3 ++ re.drop k2) k2 q r hcur hq3]; exact hq
      have htk : E.take (k2 + 1) = E.take k2 ++ [x] := by rw [List.take_add_one, hx]; rfl
      repeat' (first | ((apply ax_c; apply eH 114; exact rfl; (intro W X hN hs; exact aB zT rfl (lU _ r.2.1.1 r.2.1.2.1 r.2.1.2.2 x.2.1 (m2.st hs) (by omega))); (rintro _ _ _ _ ⟨a5, rfl, hf⟩; first | exact hE | exact Fresh.ext hf); rintro W X _ _ hN hs ⟨a5, rfl, hf⟩; have hs := hs.fresh hf; (try simp only [zcc] at hs); refine JX.at hs ?_)) | ((apply bI; have hset := (pP (rs3 ++ re.drop k2) k2 r (a5, r.2.1.2.1, r.2.1.2.1) hcur).trans (congrArg (encL cU) (oZ rs3 re k2 (r.1, (a5, r.2.1.2.1, r.2.1.2.1), r.2.2) hk3 (by omega))); refine JL_u (by apply bB; exact dQ (b := b) (o := o) (off := k2 * 3 + 1) (n := n2) (c := n2) (vs := [.slice a5 r.2.1.2.1 r.2.1.2.1]) hs rfl rfl rfl rfl (by simp [Value.oneCell']) (by show k2 * 3 + 1 + 1 ≤ n2 * 3; omega)) rfl ?_; rintro _ _ ⟨hs, hF⟩; rw [hset] at hs)) | (apply aU) | ((first | (apply aK) | (apply JX_f; exact rfl; intro W X hs)); (first | (apply aX; first | exact aW hs rfl rfl aA | exact aI hs rfl aA | exact jQ (b := b) (o := o) (off := k2 * 3) (n := n2) (c := n2) hs rfl rfl hld aA) | (apply aQ; exact aJ rfl aA) | (apply aF; exact aC rfl aA) | (apply aS; first | exact aN rfl rfl aA | exact bJ rfl rfl aA) | (apply cO; exact bT rfl rfl (by omega) (by first | (simp only [Int.reduceAdd]; exact rfl) | exact rfl) aA) | (apply aL; exact aM rfl rfl rfl aA) | (apply aP; exact aO rfl rfl (by omega) (by omega) aA)); first | (exact rfl; exact rfl) | exact rfl) | (apply bC) | (apply aG) | (apply bD) | (apply bP) | (apply bK) | (apply aH (t := 6); refine JL_o (by apply bA; exact aR hs) rfl rfl ?_; rintro _ _ ⟨b6, rfl, hb6, hs, hE⟩) | (apply bI; refine JL_u (by apply bB; exact aY hs rfl rfl rfl) rfl ?_; rintro _ _ ⟨hs, hF⟩) | (apply aT; refine bH rfl ob ?_) | (apply cZ; (refine dD (id := 10) [0, 1, 3, 0, 0, 16, 48, 127, 255, 511] [(0, 0), (1, 0), (2, 0), (3, 0), (4, 0), (5, 0), (6, 1), (7, 0), (8, 0)] [9] hs eQ (by kernel_rfl) (by kernel_rfl) (by kernel_rfl) (by kernel_rfl) (by kernel_rfl) ?_)) | (refine cX (fun W hs => ?_)) | (apply fE; case' hos => (simp only [List.map_cons, List.map_nil, List.getElem?_toArray, List.getElem?_cons_succ, List.getElem?_cons_zero]; repeat' (first | exact gI | apply fD))))
      have hs : St w NoF _ [Row a5 r.2.1.2.1 r.2.1.2.1 29 1 (sR x.2.1), Own rs3 (E.take k2), dN (some ⟨b, o, none⟩) n2 n2 (rs3 ++ [(r.1, (a5, r.2.1.2.1, r.2.1.2.1), r.2.2)] ++ re.drop (k2 + 1)), TabN a1 n n (qs.map rawN), OwnN qs, Blk b2 (.cells #[.slice none 0 0, .slice none 0 0] 57 (0, 0)), Blk b1 (.cells #[.slice a1 n n, .slice (some ⟨b, o, none⟩) n2 n2] 57 (0, 0))] := (congrArg (fun l => St w NoF _ [Row a5 r.2.1.2.1 r.2.1.2.1 29 1 l, _, _, _, _, _, _]) (vG x.2.1)).mpr (hs.sel [0, 3, 2, 4, 5, 6, 7] (by decide))
      have hs := St.pushOwn hs mlen.symm r.1 r.2.2 (by rw [e1]; exact ok1) (by rw [e3]; exact ok2) ok3
      have hx3 : (r.1, x.2.1, r.2.2) = x := by rw [e1, e3]
      rw [hx3, ← htk] at hs
      refine ih (k2 + 1, rs3 ++ [(r.1, (a5, r.2.1.2.1, r.2.1.2.1), r.2.2)]) _ _ ⟨hs.sel [1, 0, 2, 3, 4, 5] (by decide), by simp [hk3], by dsimp only; omega⟩ (by dsimp only; omega) zss
    · have hkn2 : k2 = n2 := by omega
      rw [hkn2, List.drop_of_length_le (by omega), List.append_nil, List.take_of_length_le (by omega)] at hs2
      have hs : St w NoF w3 [_, _, _, _, _, _] := hs2
      repeat' (first | (apply aU) | ((apply aK); (first | (apply aX; exact aI hs rfl aA) | (apply aL; exact aM rfl rfl rfl aA)); first | (exact rfl; exact rfl) | exact rfl) | (apply bC) | (apply aG) | (apply cK; refine cY rfl ?_) | (apply bI; refine JL_u (by apply bB; exact aY hs rfl rfl rfl) rfl ?_; rintro _ _ ⟨hs, hF⟩) | (apply aT; refine bL rfl ob ?_))
      refine aZ Tryz.func107 rfl (.agg' hs rfl rfl .nil) ⟨qs, rs3, a1, a3, ⟨hqm, hqo⟩, rfl, (hs.sel [2, 3, 0, 1] (by decide)).out (List.Sublist.refl _)⟩
end Go.Eng
end
section
namespace Go.Eng
open Go.Proofs
set_option linter.unusedSimpArgs false
set_option linter.unusedVariables false
abbrev lP (l : List ST) : List Int := l.map Prod.fst
theorem pG {l : List ST} (h : kL l) : jT (lP l) := by unfold jT lP; rw [List.pairwise_map]; exact h
theorem oM {l : List ST} {i : Nat} {s : ST} (h : l[i]? = some s) : (lP l)[i]? = some s.1 := by rw [List.getElem?_map, h]; rfl
theorem cmpI_neg {x y : Int} : cmpI x y < 0 ↔ x < y := by
  unfold cmpI
  by_cases h : x < y
  · rw [if_pos h]; exact ⟨fun _ => h, fun _ => by omega⟩
  · rw [if_neg h]
    by_cases h2 : y < x
    · rw [if_pos h2]; exact ⟨fun h => by omega, fun h => by omega⟩
    · rw [if_neg h2]; exact ⟨fun h => by omega, fun h => by omega⟩
theorem cmpI_eq {x y : Int} : cmpI x y = 0 ↔ x = y := ⟨tT, fun h => by rw [h]; exact tU y⟩
theorem cut_wiS {l : List ST} {s : ST} {i : Nat} (h : CutI (lP l) s.1 i) (hn : s.1 ∉ lP l) : l.take i ++ [s] ++ l.drop i = wiS l s := by
  unfold wiS
  have hlo : ∀ j x, l[j]? = some x → j < i → x.1 < s.1 := fun j x hx hj => h.lo j x.1 (oM hx) hj
  have hhi : ∀ j x, l[j]? = some x → i ≤ j → s.1 < x.1 := fun j x hx hj => by
    have h1 := h.hi j x.1 (oM hx) hj
    have h2 : x.1 ≠ s.1 := fun e => hn (e ▸ List.mem_map_of_mem (List.mem_of_getElem? hx))
    omega
  have e1 : l.take i = l.filter (fun x => decide (x.1 < s.1)) := by
    conv => rhs; rw [← List.take_append_drop i l]
    rw [List.filter_append, List.filter_eq_self.2, List.filter_eq_nil_iff.2, List.append_nil]
    · intro x hx
      obtain ⟨j, hj⟩ := List.mem_iff_getElem?.1 hx
      rw [List.getElem?_drop] at hj
      have := hhi _ x hj (by omega)
      simp; omega
    · intro x hx
      obtain ⟨j, hj⟩ := List.mem_iff_getElem?.1 hx
      have hji : j < i := by have := (List.getElem?_eq_some_iff.1 hj).1; rw [List.length_take] at this; omega
      rw [List.getElem?_take_of_lt hji] at hj
      exact decide_eq_true (hlo _ x hj hji)
  have e2 : l.drop i = l.filter (fun x => decide (s.1 < x.1)) := by
    conv => rhs; rw [← List.take_append_drop i l]
    rw [List.filter_append, List.filter_eq_nil_iff.2, List.filter_eq_self.2, List.nil_append]
    · intro x hx
      obtain ⟨j, hj⟩ := List.mem_iff_getElem?.1 hx
      rw [List.getElem?_drop] at hj
      exact decide_eq_true (hhi _ x hj (by omega))
    · intro x hx
      obtain ⟨j, hj⟩ := List.mem_iff_getElem?.1 hx
      have hji : j < i := by have := (List.getElem?_eq_some_iff.1 hj).1; rw [List.length_take] at this; omega
      rw [List.getElem?_take_of_lt hji] at hj
      have := hlo _ x hj hji
      simp; omega
  rw [← e1, ← e2, List.append_assoc]; rfl
theorem xA {xs : List ST} {s : ST} {i : Nat} : (encL cT xs).take (i * 2) ++ cT s ++ (encL cT xs).drop (i * 2) = encL cT (xs.take i ++ [s] ++ xs.drop i) := by
  have e1 : encL cT (xs.take i) = (encL cT xs).take (i * 2) := jN (d := dStp) xs i
  have e2 : encL cT (xs.drop i) = (encL cT xs).drop (i * 2) := nB (d := dStp) xs i
  rw [jD, jD, e1, e2]
  simp [encL]
attribute [local irreducible] Hold J JL JD JX JXat OpR OpG Ret RetV Is Blk Row
set_option maxRecDepth 100000
set_option maxHeartbeats 1000000
theorem bsT_r (w : World) (a : Option Addr) (n c : Nat) (l : List ST) (x : ST) (h : Sl dStp All w a n c l) (hx : okT x) (hr : kL l) (hn : n ≤ 1000000) :
    Ret Tryz.prog 171 #[.slice a n c, .agg (cT x).toArray, .func (.func 172) #[] #[]] w fun v w' => ∃ i : Nat, CutI (lP l) x.1 i ∧ v = .tuple #[.int .i64 i, .bool (decide (x.1 ∈ lP l))] ∧ Ext w w' := by
  refine cJ (l := [_, _, _]) Tryz.func171 rfl Tryz.ntmps171 (by simp) ?_
  have hs := St.init w
  have hl := h.len
  have hlo := vL h
  have hlk : (lP l).length = n := by rw [List.length_map]; exact hl
  have hmono : ∀ (p q : Nat) (u v : Int), (lP l)[p]? = some u → (lP l)[q]? = some v → p < q → u < v := fun p q u v hu hv hpq => by
    have := List.pairwise_iff_getElem.1 (pG hr) p q (List.getElem?_eq_some_iff.1 hu).1 (List.getElem?_eq_some_iff.1 hv).1 hpq
    rwa [(List.getElem?_eq_some_iff.1 hu).2, (List.getElem?_eq_some_iff.1 hv).2] at this
  repeat' (first | (apply aU) | ((apply aK); (first | (apply aQ; exact aJ rfl aA) | (apply aF; exact aC rfl aA) | (apply bO; exact bZ rfl aA)); first | (exact rfl; exact rfl) | exact rfl) | (apply bC) | (apply aG) | (apply bD) | (apply aH (t := 4); refine JL_o (by apply cA; exact bE hs rfl) rfl rfl ?_; rintro _ _ ⟨b4, rfl, hb4, hs, hE⟩))
  refine dK (α := Nat × Nat) [(0, _), (2, _), (4, _), (8, _)] (fun g => [(9, .int .i64 g.1), (10, .int .i64 g.2)]) (fun g w' => St w NoF w' [Blk b4 (.cells #[.int .u64 x.1, .int .i64 x.2] 93 (0, 0))] ∧ g.1 ≤ g.2 ∧ g.2 ≤ n ∧ (∀ j y, (lP l)[j]? = some y → j < g.1 → y < x.1) ∧ (∀ j y, (lP l)[j]? = some y → g.2 ≤ j → x.1 ≤ y)) (fun g => g.2 - g.1) (0, n) ⟨hs, Nat.zero_le _, Nat.le_refl _, (fun j y _ hj => absurd hj (Nat.not_lt_zero _)), (fun j y hy hj => by have := (List.getElem?_eq_some_iff.1 hy).1; dsimp only at hj; omega)⟩ zss ?_
  rintro ⟨i, j⟩ w2 ⟨hs1, hij, hjn, hlo_, hhi⟩ ih
  dsimp only at hs1 hij hjn hlo_ hhi ih ⊢
  by_cases hlt : i < j
  · obtain ⟨p, o, rfl⟩ := h.sl.addr (by omega)
    have hs : St w NoF w2 [_] := hs1
    obtain ⟨m, hm_⟩ : ∃ m, m = (i + j) / 2 := ⟨_, rfl⟩
    have hmi : i ≤ m := by omega
    have hmj : m < j := by omega
    have hmv : ((i : Int) + (j : Int)) / 2 = (m : Int) := by omega
    have hy : l[m]? = some (l[m]'(by omega)) := List.getElem?_eq_getElem (by omega)
    obtain ⟨y, hyd⟩ : ∃ y, y = l[m]'(by omega) := ⟨_, rfl⟩
    rw [← hyd] at hy
    have hyo := hlo y (List.mem_of_getElem? hy)
    have hky := oM hy
    obtain ⟨cc, hcc⟩ : ∃ cc, cc = cmpI y.1 x.1 := ⟨_, rfl⟩
    by_cases hc : cc < 0
    · have hyx : y.1 < x.1 := cmpI_neg.1 (hcc ▸ hc)
      repeat' (first | ((apply ax_c; apply JX_c (t := 30); exact rfl; (intro W X hN hs; exact cE rfl rfl (Ret.value (cap := #[]) mI (eD _ y x hyo hx))); (rintro _ _ _ _ ⟨rfl, hE⟩; first | exact Ext.rl hE | exact Ext.rl (Fresh.ext hf)); exact rfl; rintro W X _ _ hN hs ⟨rfl, hE⟩; rw [← hcc]; have hs := hs.ext hE; (try simp only [zcc] at hs); refine JX.at hs ?_)) | (apply aU) | ((first | (apply aK) | (apply JX_f; exact rfl; intro W X hs)); (first | (apply aX; first | exact aW hs rfl rfl aA | exact aI hs rfl aA | exact bF (i := m) (h.st hs) hy rfl rfl aA) | (apply aL; exact nU (n := 1) rfl rfl (by decide) rfl (by rw [show ((i : Int) + (j : Int)) / 2 ^ 1 = (m : Int) from hmv]; exact aA)) | (apply aQ; exact aJ rfl aA) | (apply aF; exact aC rfl aA) | (apply cO; exact bT rfl rfl (by omega) (by first | (simp only [Int.reduceAdd]; exact rfl) | exact rfl) aA) | (apply aL; exact aM rfl rfl rfl aA) | (apply gV; first | exact jI rfl (by omega) aA | exact iH rfl (by omega) aA) | (apply aP; exact aO rfl rfl (by omega) (by omega) aA)); first | (exact rfl; exact rfl) | exact rfl) | (apply bC) | (apply aG) | (apply bD) | (apply bP) | (apply bK) | (apply aT; refine bH rfl ob ?_) | (apply cZ; (refine dD (id := 5) [0, 0, 0, 6, 14, 0, 63, 127] [(0, 0), (1, 0), (2, 0), (3, 0), (4, 0), (5, 0), (6, 1), (7, 0)] [] hs eQ (by kernel_rfl) (by kernel_rfl) (by kernel_rfl) (by kernel_rfl) (by kernel_rfl) ?_)) | (refine cX (fun W hs => ?_)) | (apply dL))
      refine ih (m + 1, j) _ _ ⟨hs, by show m + 1 ≤ j; omega, hjn, fun q u hu hq => ?_, hhi⟩ (by show j - (m + 1) < j - i; omega) zss
      by_cases e : q = m
      · subst e; rw [hky] at hu; cases hu; exact hyx
      · have := hmono q m u y.1 hu hky (by dsimp only at hq; omega); omega
    · have hyx : ¬ y.1 < x.1 := fun h => hc (hcc ▸ cmpI_neg.2 h)
      repeat' (first | ((apply ax_c; apply JX_c (t := 30); exact rfl; (intro W X hN hs; exact cE rfl rfl (Ret.value (cap := #[]) mI (eD _ y x hyo hx))); (rintro _ _ _ _ ⟨rfl, hE⟩; first | exact Ext.rl hE | exact Ext.rl (Fresh.ext hf)); exact rfl; rintro W X _ _ hN hs ⟨rfl, hE⟩; rw [← hcc]; have hs := hs.ext hE; (try simp only [zcc] at hs); refine JX.at hs ?_)) | (apply aU) | ((first | (apply aK) | (apply JX_f; exact rfl; intro W X hs)); (first | (apply aX; first | exact aW hs rfl rfl aA | exact aI hs rfl aA | exact bF (i := m) (h.st hs) hy rfl rfl aA) | (apply aL; exact nU (n := 1) rfl rfl (by decide) rfl (by rw [show ((i : Int) + (j : Int)) / 2 ^ 1 = (m : Int) from hmv]; exact aA)) | (apply aQ; exact aJ rfl aA) | (apply aF; exact aC rfl aA) | (apply cO; exact bT rfl rfl (by omega) (by first | (simp only [Int.reduceAdd]; exact rfl) | exact rfl) aA) | (apply aL; exact aM rfl rfl rfl aA) | (apply gV; first | exact jI rfl (by omega) aA | exact iH rfl (by omega) aA) | (apply aP; exact aO rfl rfl (by omega) (by omega) aA)); first | (exact rfl; exact rfl) | exact rfl) | (apply bC) | (apply aG) | (apply bD) | (apply bP) | (apply bK) | (apply aT; first | refine bH rfl ob ?_ | refine bL rfl ob ?_) | (apply cZ; (refine dD (id := 5) [0, 0, 0, 6, 14, 0, 63, 127] [(0, 0), (1, 0), (2, 0), (3, 0), (4, 0), (5, 0), (6, 1), (7, 0)] [] hs eQ (by kernel_rfl) (by kernel_rfl) (by kernel_rfl) (by kernel_rfl) (by kernel_rfl) ?_)) | (refine cX (fun W hs => ?_)) | (apply dL))
      refine ih (i, m) _ _ ⟨hs, hmi, by show m ≤ n; omega, hlo_, fun q u hu hq => ?_⟩ (by show m - i < j - i; omega) zss
      by_cases e : q = m
      · subst e; rw [hky] at hu; cases hu; omega
      · have := hmono m q y.1 u hky hu (by dsimp only at hq; omega); omega
  · have hs : St w NoF w2 [_] := hs1
    have hij2 : i = j := by omega
    subst hij2
    have hcut : CutI (lP l) x.1 i := ⟨by omega, hlo_, hhi⟩
    by_cases hin : i < n
    · obtain ⟨p, o, rfl⟩ := h.sl.addr (by omega)
      have hs : St w NoF w2 [_] := hs1
      have hy : l[i]? = some (l[i]'(by omega)) := List.getElem?_eq_getElem (by omega)
      obtain ⟨y, hyd⟩ : ∃ y, y = l[i]'(by omega) := ⟨_, rfl⟩
      rw [← hyd] at hy
      have hyo := hlo y (List.mem_of_getElem? hy)
      have hky := oM hy
      obtain ⟨cc, hcc⟩ : ∃ cc, cc = cmpI y.1 x.1 := ⟨_, rfl⟩
      have hmd : decide (x.1 ∈ lP l) = decide (cc = 0) := by
        rw [decide_eq_decide, hcc, cmpI_eq, hcut.there (pG hr), hky]
        exact ⟨fun h => Option.some.inj h, fun h => by rw [h]⟩
      rw [hmd]
      repeat' (first | ((apply ax_c; apply kK (t := 46); exact rfl; exact rfl; exact gb; (intro W X hN hs; exact cE rfl rfl (Ret.value (cap := #[]) mI (eD _ y x hyo hx))); (rintro _ _ _ _ ⟨rfl, hE⟩; first | exact Ext.rl hE | exact Ext.rl (Fresh.ext hf)); exact rfl; rintro W X _ _ hN hs ⟨rfl, hE⟩; rw [← hcc]; have hs := hs.ext hE; (try simp only [zcc] at hs); refine JX.at hs ?_)) | (apply aU) | ((first | (apply aK) | (apply JX_f; exact rfl; intro W X hs) | (apply fA; exact rfl; exact rfl; exact gb; intro W X hs)); (first | (apply aX; first | exact aW hs rfl rfl aA | exact aI hs rfl aA | exact bF (i := i) (h.st hs) hy rfl rfl aA) | (apply aQ; exact aJ rfl aA) | (apply aF; exact aC rfl aA) | (apply aL; exact aM rfl rfl rfl aA) | (apply cH; exact bR rfl gb rfl aA) | (apply aP; exact aO rfl rfl (by omega) (by omega) aA)); first | (exact rfl; exact rfl) | exact rfl) | (apply bC) | (apply aG) | (apply cK; refine cY rfl ?_) | (apply aT; refine bL rfl ob ?_) | (apply cZ; (refine dD (id := 8) [0, 0, 0, 6, 14, 30, 30, 30, 222, 478, 30, 2046, 4094, 8190, 4095, 32767] [(0, 0), (1, 0), (2, 0), (3, 0), (4, 0), (5, 0), (6, 0), (7, 0), (8, 0), (9, 0), (10, 0), (11, 1), (12, 0), (13, 0), (14, 0), (15, 0)] [] hs eQ (by kernel_rfl) (by kernel_rfl) (by kernel_rfl) (by kernel_rfl) (by kernel_rfl) ?_)) | (refine cX (fun W hs => ?_)) | (apply dL))
      refine aZ Tryz.func171 rfl (.tmp rfl (.tmp rfl .nil)) ⟨i, hcut, rfl, hs.frm.ext⟩
    · have hmd : decide (x.1 ∈ lP l) = false := decide_eq_false (fun hm => by have := (List.getElem?_eq_some_iff.1 ((hcut.there (pG hr)).1 hm)).1; omega)
      rw [hmd]
      repeat' (first | (apply aU) | ((first | (apply aK) | (apply JX_f; exact rfl; intro W X hs)); (first | (apply aQ; exact aJ rfl aA) | (apply aF; exact aC rfl aA) | (apply aL; exact aM rfl rfl rfl aA) | (apply cH; exact bN rfl gb rfl aA)); first | (exact rfl; exact rfl) | exact rfl) | (apply bC) | (apply aG) | (apply cK; refine cY rfl ?_) | (apply aT; refine bL rfl ob ?_) | (apply cZ; (refine dD (id := 8) [0, 0, 0, 6, 14, 30, 30, 30, 222, 478, 30, 2046, 4094, 8190, 4095, 32767] [(0, 0), (1, 0), (2, 0), (3, 0), (4, 0), (5, 0), (6, 0), (7, 0), (8, 0), (9, 0), (10, 0), (11, 1), (12, 0), (13, 0), (14, 0), (15, 0)] [] hs eQ (by kernel_rfl) (by kernel_rfl) (by kernel_rfl) (by kernel_rfl) (by kernel_rfl) ?_)) | (refine cX (fun W hs => ?_)) | (refine eB rfl rfl gb rfl ?_) | (refine eC rfl rfl gb rfl ?_) | (apply dL))
      refine aZ Tryz.func171 rfl (.tmp rfl (.tmp rfl .nil)) ⟨i, hcut, rfl, hs.frm.ext⟩
-- WSPL 170 2 : [1] [0]
theorem gput_r (w : World) (b o n c q : Nat) (Y : List Value) (ra : Option Addr) (rn rc : Nat) (row : List ST) (id to : Int) (bid : Nat)
    (hh : Held w [Row (some ⟨b, o, none⟩) n c 79 4 Y, RowT ra rn rc row]) (hq : Y[q]? = some (.slice ra rn rc)) (hq4 : q < n * 4) (hlen : row.length = rn) (hok : ∀ s ∈ row, okT s) (hid : okId id) (hto : inK .i64 to) (hrise : kL row) (hsame : ∀ s ∈ row, s.1 = id → s = (id, to)) (hrn : rn ≤ 1000000)
    (hbid : w.heap[bid]? = some (.cells #[.int .u64 id] 29 (0, 0))) (hsep : ∀ k, (Star [Row (some ⟨b, o, none⟩) n c 79 4 Y, RowT ra rn rc row]).foot k → k ≠ bid) :
    Ret Tryz.prog 170 #[.pointer (some ⟨b, o + q, none⟩), .int .i64 to, ptr bid] w fun _ w' => ∃ (ra' : Option Addr) (rc' : Nat), Turn w [Row (some ⟨b, o, none⟩) n c 79 4 Y, RowT ra rn rc row] w' [Row (some ⟨b, o, none⟩) n c 79 4 (bY Y q [.slice ra' (wiS row (id, to)).length rc']), RowT ra' (wiS row (id, to)).length rc' (wiS row (id, to))] := by
  refine cJ (l := [_, _, _]) Tryz.func170 rfl Tryz.ntmps170 (by simp) ?_
  have hs := hh.st
  have hYl : Y.length = n * 4 := (hs.row (some ⟨b, o, none⟩) n c).len
  have hbF : ¬ (Star [Row (some ⟨b, o, none⟩) n c 79 4 Y, RowT ra rn rc row]).foot bid := fun h => hsep _ h rfl
  have h0k : okT (id, 0) := ⟨hid, by show inK .i64 0; unfold inK; simp only [IntKind.min, IntKind.max, IntKind.bits, IntKind.signed]; omega⟩
  obtain ⟨mb, hmb⟩ : ∃ m, decide (id ∈ lP row) = m := ⟨_, rfl⟩
  cases mb with
  | true =>
    have hm := of_decide_eq_true hmb
    have hin : (id, to) ∈ row := by
      obtain ⟨s, h1, h2⟩ := List.mem_map.1 hm
      exact hsame s h1 h2 ▸ h1
    have hw : wiS row (id, to) = row := rC hrise hin
    have hY : bY Y q [.slice ra rn rc] = Y := by
      rw [wN _ _ _ (by omega)]
      apply List.ext_getElem?
      intro i
      by_cases e : i = q
      · rw [e, List.getElem?_set_self (by omega), hq]
      · rw [List.getElem?_set_ne (by omega)]
    rw [hw, hlen]
    repeat' (first | ((apply ax_c; apply eH 171; exact rfl; (intro W X hN hs; exact aB en171 rfl (bsT_r _ ra rn rc row (id, 0) (slT hs zmm hok) h0k hrise hrn)); (rintro _ _ _ _ ⟨i, hcut, rfl, hE⟩; first | exact hE | exact Fresh.ext hf); rintro W X _ _ hN hs ⟨i, hcut, rfl, hE⟩; rw [hmb]; have hs := hs.ext hE; (try simp only [zcc] at hs); refine JX.at hs ?_)) | (apply aU) | ((first | (apply aK) | (apply JX_f; exact rfl; intro W X hs)); (first | (apply aX; first | exact gW (b := b) (o := o) (off := q) (n := n) (c := c) hs rfl hq aA | exact bW (hs.keep_cell (cQ (off := 0) hbid rfl) hbF) rfl aA) | (apply aQ; exact aJ rfl aA) | (apply aF; exact aC rfl aA) | (apply cF; exact cG rfl aA) | (apply jO; exact iV rfl aA) | (apply cD; exact bU rfl rfl aA) | (apply dE; exact cW rfl (by (simp only [bld, dB, bY, Value.cells, List.take_succ_cons, List.take_zero, List.drop_succ_cons, List.drop_zero, List.cons_append, List.nil_append, List.length_cons, List.length_nil, List.getElem?_cons_zero, List.getElem?_cons_succ, Option.map_some, List.append_nil, Nat.reduceAdd, Nat.reduceMul, Nat.zero_add, Nat.reduceLeDiff, and_self, if_true, List.toList_toArray, Nat.le_refl, Nat.zero_mul, Nat.one_mul]; first | done | rfl)) aA)); first | (exact rfl; exact rfl) | exact rfl) | (apply bC) | (apply aG) | (apply bK) | (apply aT; refine bM rfl gb ?_) | (apply cZ; (refine dD (id := 0) [0, 1, 3, 0, 8, 31, 63, 127, 127, 255, 1023] [(0, 0), (1, 0), (2, 0), (3, 0), (4, 0), (5, 1), (6, 0), (7, 0), (8, 0), (9, 0), (10, 0)] [] hs eQ (by kernel_rfl) (by kernel_rfl) (by kernel_rfl) (by kernel_rfl) (by kernel_rfl) ?_)) | (refine cX (fun W hs => ?_)) | (apply dL))
    refine fT Tryz.func170 rfl .nil ⟨ra, rc, by rw [hY]; exact St.turned (M := []) hs⟩
  | false =>
    have hm := of_decide_eq_false hmb
    have hwl : ∀ i, CutI (lP row) id i → (encL cT row).take (i * 2) ++ [.int .u64 id, .int .i64 to] ++ (encL cT row).drop (i * 2) = encL cT (wiS row (id, to)) ∧ rn + 1 = (wiS row (id, to)).length ∧ i ≤ rn := fun i hc => by
      have h1 := cut_wiS (s := (id, to)) hc hm
      have h2 : i ≤ rn := by have := hc.le; rw [List.length_map, hlen] at this; exact this
      refine ⟨by rw [← h1, ← xA], ?_, h2⟩
      rw [← h1, List.length_append, List.length_append, List.length_take, List.length_drop, List.length_singleton]; omega
    repeat' (first | ((apply ax_c; apply eH 171; exact rfl; (intro W X hN hs; exact aB en171 rfl (bsT_r _ ra rn rc row (id, 0) (slT hs zmm hok) h0k hrise hrn)); (rintro _ _ _ _ ⟨i, hcut, rfl, hE⟩; first | exact hE | exact Fresh.ext hf); rintro W X _ _ hN hs ⟨i, hcut, rfl, hE⟩; rw [hmb]; have hs := hs.ext hE; (try simp only [zcc] at hs); refine JX.at hs ?_)) | (apply aU) | ((first | (apply aK) | (apply JX_f; exact rfl; intro W X hs) | (apply qE; exact rfl; intro W hs)); (first | (apply aX; first | exact gW (b := b) (o := o) (off := q) (n := n) (c := c) hs rfl hq aA | exact bW (hs.keep_cell (cQ (off := 0) hbid rfl) hbF) rfl aA) | (apply aQ; exact aJ rfl aA) | (apply aF; exact aC rfl aA) | (apply cF; exact cG rfl aA) | (apply jO; exact iV rfl aA) | (apply cD; exact bU rfl rfl aA) | (apply dE; exact cW rfl (by (simp only [bld, dB, bY, Value.cells, List.take_succ_cons, List.take_zero, List.drop_succ_cons, List.drop_zero, List.cons_append, List.nil_append, List.length_cons, List.length_nil, List.getElem?_cons_zero, List.getElem?_cons_succ, Option.map_some, List.append_nil, Nat.reduceAdd, Nat.reduceMul, Nat.zero_add, Nat.reduceLeDiff, and_self, if_true, List.toList_toArray, Nat.le_refl, Nat.zero_mul, Nat.one_mul]; first | done | rfl)) aA)); first | (exact rfl; exact rfl) | exact rfl) | (apply bC) | (apply aG) | (apply ax_n; refine JX_n (t := 26) rfl (fun W L hs => by apply dA; exact cS hs rfl (by omega) rfl) rfl ?_) | (apply ax_k; (first | refine JX_k (t := 26) ?_ | refine jE (t := 26) rfl ?_); intro b26) | (apply aT; refine bQ rfl gb ?_) | (apply cZ; first | (refine dD (id := 0) [0, 1, 3, 0, 8, 31, 63, 127, 127, 255, 1023] [(0, 0), (1, 0), (2, 0), (3, 0), (4, 0), (5, 1), (6, 0), (7, 0), (8, 0), (9, 0), (10, 0)] [] hs eQ (by kernel_rfl) (by kernel_rfl) (by kernel_rfl) (by kernel_rfl) (by kernel_rfl) ?_) | (refine aAu (id := 2) [0, 0, 2, 6, 0, 0, 0, 96, 224, 510, 1023, 2047] [(0, 0), (1, 0), (2, 0), (3, 0), (4, 0), (5, 0), (6, 0), (7, 0), (8, 2), (8, 3), (9, 1), (10, 0)] [11] [_] [_] (show St _ _ _ [_, _] from hs.sel [1, 0] (by decide)) rfl eQ (by kernel_rfl) (by kernel_rfl) (by kernel_rfl) (by kernel_rfl) (by kernel_rfl) ?_; intro ZZ hZZ)) | (refine cX (fun W hs => ?_)) | (apply dL))
    have hYq : ∀ (ra' : Option Addr) (rn' rc' : Nat), q + [Value.slice ra' rn' rc'].length ≤ n * 4 := fun _ _ _ => by show q + 1 ≤ n * 4; omega
    obtain ⟨hwc, hwn, hile⟩ := hwl i hcut
    repeat' (first | ((apply ax_c; apply JX_c (t := 27); exact rfl; (intro W X hN hs; have hs2 : St w (Star [Row (some ⟨b, o, none⟩) n c 79 4 Y, RowT ra rn rc row]).foot W ([RowT ra rn rc row, Blk b26 (.cells #[.int .u64 id, .int .i64 to] 93 (0, 0))] ++ [Row (some ⟨b, o, none⟩) n c 79 4 Y, X]) := hs.sel [2, 1, 3, 0] (by decide); exact jR (aB en173 rfl (insT_r _ ra rn rc i (encL cT row) (.int .u64 id) (.int .i64 to) b26 (St.held (A := [_, _]) hs2) hile hrn (one_encT row) (fun u hu => by simp only [List.mem_cons, List.not_mem_nil, or_false] at hu; rcases hu with rfl | rfl <;> rfl))) (St.zfoot (A := [_, _]) (C0 := [_]) (hs2.sub (List.Sublist.append_left (.cons_cons _ (List.nil_sublist _)) _)) hZZ)); (rintro _ _ _ _ ⟨⟨a4, c4, rfl, ht⟩, hz⟩; exact Frm.rlZ ht.frm hz); exact rfl; rintro W X _ _ hN hs ⟨⟨a4, c4, rfl, ht⟩, hz⟩; have hs2 : St w (Star [Row (some ⟨b, o, none⟩) n c 79 4 Y, RowT ra rn rc row]).foot W ([RowT ra rn rc row, Blk b26 (.cells #[.int .u64 id, .int .i64 to] 93 (0, 0))] ++ [Row (some ⟨b, o, none⟩) n c 79 4 Y, X]) := hs.sel [2, 1, 3, 0] (by decide); have hs := St.take (A := [_, _]) (A' := [_]) hs2 ht; rw [hwc, hwn] at hs; simp only [zcc] at hs; refine JX.at hs ?_)) | ((apply qE; exact rfl; intro W hs); (apply jO; exact iV rfl aA); first | (exact rfl; exact rfl) | exact rfl) | (refine cX (fun W hs => ?_)) | (apply fE; case' hos => (simp only [List.map_cons, List.map_nil, List.getElem?_toArray, List.getElem?_cons_succ, List.getElem?_cons_zero]; repeat' (first | exact gI | apply fD))))
    apply bI
    refine JL_u (by apply bB; exact dQ (b := b) (o := o) (off := q) (n := n) (c := c) (vs := [.slice a4 (rn + 1) c4]) hs rfl rfl rfl rfl (by simp [Value.oneCell']) (by show q + 1 ≤ n * 4; omega)) rfl ?_
    rintro _ _ ⟨hs, hF⟩
    repeat' (first | (apply aU))
    rw [hwn] at hs
    refine fT Tryz.func170 rfl .nil ⟨a4, c4, St.turned (M := []) (hs.sel [1, 0] (by decide))⟩
end Go.Eng
end
section
namespace Go.Eng
open Go.Proofs
set_option linter.unusedSimpArgs false
set_option linter.unusedVariables false
attribute [local irreducible] Hold J JL JD JX JXat OpR OpG Ret RetV Is Blk Row
set_option maxRecDepth 100000
set_option maxHeartbeats 1000000
end Go.Eng
end
section
namespace Go.Eng
open Go.Proofs
set_option linter.unusedSimpArgs false
set_option linter.unusedVariables false
theorem sX {R : Nat → Prop} {w : World} {r : RNd} {x : NM} (h : mNode.rel R w r x) : r.1 = x.1 ∧ Sl dId R w r.2.1.1 r.2.1.2.1 r.2.1.2.2 x.2.1 ∧ Sl dStp R w r.2.2.1.1 r.2.2.1.2.1 r.2.2.1.2.2 x.2.2.1 ∧ Sl dStp R w r.2.2.2.1 r.2.2.2.2.1 r.2.2.2.2.2 x.2.2.2 := h
attribute [local irreducible] Hold J JL JD JX JXat OpR OpG Ret RetV Is Blk Row
set_option maxRecDepth 100000
set_option maxHeartbeats 2000000
end Go.Eng
end
section
namespace Go.Eng
open Go.Proofs
set_option linter.unusedSimpArgs false
set_option linter.unusedVariables false
attribute [local irreducible] Hold J JL JD JX JXat OpR OpG Ret RetV Is Blk Row
set_option maxRecDepth 100000
set_option maxHeartbeats 2000000
end Go.Eng
end
section
namespace Go.Eng
open Go.Proofs
set_option linter.unusedSimpArgs false
set_option linter.unusedVariables false
attribute [local irreducible] Hold J JL JD JX JXat OpR OpG Ret RetV Is Blk Row
set_option maxRecDepth 100000
set_option maxHeartbeats 2000000
end Go.Eng
end
section
namespace Go.Eng
open Go.Proofs
set_option linter.unusedSimpArgs false
set_option linter.unusedVariables false
abbrev z0 : RS := (none, 0, 0)
abbrev r00 : RNd := (false, z0, z0, z0)
abbrev rNew (q : RS) : RNd := (true, q, z0, z0)
theorem nil_sl {α : Type} (d : Ty α) (R : Nat → Prop) (w : World) : Sl d R w none 0 0 [] := ⟨Nat.le_refl _, by unfold maxLen; omega, fun _ => rfl, ⟨rfl, fun _ => rfl, fun h => absurd h (by omega), (fun b o h => by cases h), (fun i x h => by simp at h)⟩⟩
theorem Sl.to {α : Type} {d : Ty α} {R : Nat → Prop} {w : World} {a : Option Addr} {n c : Nat} {xs ys : List α} (e : xs = ys) (h : Sl d R w a n c xs) : Sl d R w a n c ys := e ▸ h
theorem rU (rs : List RNd) (k : Nat) (r : RNd) (hk : k < rs.length) : bY (encL cNd rs) (k * 4) (cNd r) = encL cNd (rs.set k r) := (lC (d := dRNd) rs k r hk).symm
attribute [local irreducible] Hold J JL JD JX JXat OpR OpG Ret RetV Is Blk Row
set_option maxRecDepth 100000
set_option maxHeartbeats 2000000
end Go.Eng
end
