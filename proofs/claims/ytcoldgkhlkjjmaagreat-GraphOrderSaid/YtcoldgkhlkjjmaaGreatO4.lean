/- The texts G5, G6, G7, L35, L36, G8, G9, G10, G11, G12, E31, G13, G14, G15, G16, G17, G18, G19, joined: what of them serves. -/
import Derived.Test.YtcoldgkhlkjjmaaGreatO3
section
namespace Go.Eng
open Go.Proofs
set_option linter.unusedSimpArgs false
set_option linter.unusedVariables false
abbrev s0 : ST := (0, 0)
def dS (N : List NM) (x : Int) : NM := N.getD (x - 1).toNat n0
def wA (x : NM) (plus : Bool) : List ST := if plus then x.2.2.2 else x.2.2.1
def wI (plus : Bool) (l : List Int) (id : Int) : Int := if plus then hM l id else outC l id
def wH (plus : Bool) (l : List Int) (id : Int) : List Int := if plus then gG l id else outL l id
def oQ (N : List NM) (n : Int) (row : List ST) (plus : Bool) (i : Nat) : Bool :=
  (decide (i = 0) || decide ((row.getD (i - 1) s0).1 < (row.getD i s0).1)) && (isM N (row.getD i s0).2 && ((hasT (dS N n).2.1 (row.getD i s0).1 != plus) && (decide (wI plus (dS N n).2.1 (row.getD i s0).1 = 0) &&
    (decide ((dS N (row.getD i s0).2).2.1 = wH plus (dS N n).2.1 (row.getD i s0).1) && decide (((row.getD i s0).1, n) ∈ wA (dS N (row.getD i s0).2) plus)))))
def gH (N : List NM) (n : Int) (row : List ST) (plus : Bool) : Bool := (List.range row.length).all (oQ N n row plus)
theorem eD {N : List NM} {n : Int} {row : List ST} {plus : Bool} {k : Nat} (hk : k < row.length) (h : oQ N n row plus k = false) : gH N n row plus = false := by
  unfold gH
  rw [List.all_eq_false]
  exact ⟨k, List.mem_range.2 hk, by rw [h]; decide⟩
theorem tA {N : List NM} {n : Int} {row : List ST} {plus : Bool} (h : ∀ k, k < row.length → oQ N n row plus k = true) : gH N n row plus = true := by
  unfold gH
  rw [List.all_eq_true]
  exact fun k hk => h k (List.mem_range.1 hk)
theorem dK {N : List NM} {k : Nat} {x : NM} (h : N[k]? = some x) : dS N ((k : Int) + 1) = x := by
  unfold dS
  rw [show ((k : Int) + 1 - 1).toNat = k by omega, dF h]
attribute [local irreducible] Hold J JL JD JX JXat OpR OpG Ret RetV Is Blk Row
set_option maxRecDepth 100000
set_option maxHeartbeats 2000000
theorem lS (w : World) (a a2 a3 : Option Addr) (n c n2 c2 n3 c3 : Nat) (N : List NM) (k0 : Nat) (row : List ST) (plus : Bool) (h : Sl jD All w a n c N) (hk0 : k0 < n) (hrow : Sl dStp All w a3 n3 c3 row) :
    Ret Tryz.prog 120 #[.agg #[.slice a n c, .slice a2 n2 c2], .int .i64 ((k0 : Int) + 1), .slice a3 n3 c3, .bool plus] w fun v w' => v = .bool (gH N ((k0 : Int) + 1) row plus) ∧ Ext w w' := by
  refine cG (l := [_, _, _, _]) Tryz.func120 rfl Tryz.ntmps120 (by simp) ?_
  have hs := St.init w
  have hl := h.len
  have hl3 := hrow.len
  have hNo := wR h
  have hro := tZ hrow
  obtain ⟨rs, hr, hm⟩ := Sl.raw (D := nN) h
  have hmx : n ≤ 9223372036854775807 := by have h3 := h.le; have h4 := h.cap; unfold maxLen at h4; omega
  have hmx3 : n3 ≤ 9223372036854775807 := by have h3 := hrow.le; have h4 := hrow.cap; unfold maxLen at h4; omega
  obtain ⟨p, o, rfl⟩ := hr.sl.addr (by omega)
  have hy0 : N[k0]? = some (N[k0]'(by omega)) := List.getElem?_eq_getElem (by omega)
  obtain ⟨y0, hyd0⟩ : ∃ y, y = N[k0]'(by omega) := ⟨_, rfl⟩
  rw [← hyd0] at hy0
  obtain ⟨r0, hr0, _, e0, _⟩ := hm.get hy0
  have mT : Sl dId All w r0.2.1.1 r0.2.1.2.1 r0.2.1.2.2 y0.2.1 := e0
  have hr0' : rs[((k0 : Int) + 1 - 1).toNat]? = some r0 := by rw [show ((k0 : Int) + 1 - 1).toNat = k0 by omega]; exact hr0
  have hnode := dK hy0
  obtain ⟨T, hT⟩ : ∃ T, T = y0.2.1 := ⟨_, rfl⟩
  rw [← hT] at mT
  repeat' (first | (apply aR) | ((apply aI); (first | (apply aV; first | exact aU hs rfl rfl aA | exact bU (i := ((k0 : Int) + 1 - 1).toNat) (j := 1) (hr.st hs) hr0' rfl rfl rfl aA) | (apply aQ; exact aH rfl aA) | (apply aF; exact aB rfl aA) | (apply aT; first | exact aP rfl rfl aA | exact bP rfl rfl aA) | (apply dZ; exact dI rfl rfl (by omega) aA) | (apply bL; exact bY rfl aA) | (apply aO; exact aN rfl rfl (by omega) (by omega) aA)); first | (exact rfl; exact rfl) | exact rfl) | (apply bB) | (apply aG) | (apply bC) | (apply rI) | (apply rG) | (apply aL (t := 4); refine JL_o (by apply cD; exact bG hs rfl) rfl rfl ?_; rintro _ _ ⟨b4, rfl, hb4, hs, hE⟩))
  refine dG (α := Nat) [(1, _), (2, _), (3, _), (4, _), (9, _), (24, _), (25, _)] (fun k => [(10, .bool true), (26, .int .i64 k)]) (fun k w' => St w NoF w' [Blk b4 (.cells #[.slice (some ⟨p, o, none⟩) n c, .slice a2 n2 c2] 57 (0, 0))] ∧ k ≤ n3 ∧ ∀ j, j < k → oQ N ((k0 : Int) + 1) row plus j = true) (fun k => n3 - k) 0 ⟨hs, Nat.zero_le _, fun j hj => absurd hj (Nat.not_lt_zero _)⟩ zss ?_
  rintro k w2 ⟨hs1, hk, hall⟩ ih
  have hs : St w NoF w2 [_] := hs1
  by_cases hlt : k < n3
  · obtain ⟨p3, o3, rfl⟩ := hrow.sl.addr (by omega)
    have hs : St w NoF w2 [_] := hs1
    have hv : row[k]? = some (row[k]'(by omega)) := List.getElem?_eq_getElem (by omega)
    obtain ⟨s, hsd⟩ : ∃ s, s = row[k]'(by omega) := ⟨_, rfl⟩
    rw [← hsd] at hv
    have hso := hro s (List.mem_of_getElem? hv)
    obtain ⟨q, hq⟩ : ∃ q, q = row.getD (k - 1) s0 := ⟨_, rfl⟩
    have hprev : (k : Int) > 0 → row[((k : Int) - 1).toNat]? = some q := fun hk0 => by
      rw [show ((k : Int) - 1).toNat = k - 1 by omega, hq, dF (List.getElem?_eq_getElem (by omega : k - 1 < row.length))]
      exact List.getElem?_eq_getElem _
    have hqo : (k : Int) > 0 → okT q := fun hk0 => hro q (List.mem_of_getElem? (hprev hk0))
    obtain ⟨cc, hcc⟩ : ∃ cc, cc = cmpI q.1 s.1 := ⟨_, rfl⟩
    have hccl : cc < 0 ↔ q.1 < s.1 := by rw [hcc]; unfold cmpI; split <;> (try split) <;> omega
    have hst : oQ N ((k0 : Int) + 1) row plus k = ((decide (k = 0) || decide (q.1 < s.1)) && (isM N s.2 && ((hasT T s.1 != plus) && (decide (wI plus T s.1 = 0) && (decide ((dS N s.2).2.1 = wH plus T s.1) && decide ((s.1, (k0 : Int) + 1) ∈ wA (dS N s.2) plus)))))) := by
      unfold oQ
      rw [hnode, dF hv, ← hq, hT]
    by_cases hadj : (k : Int) > 0 → cc < 0
    rotate_left
    · have hk0 : (k : Int) > 0 := Decidable.by_contra fun h => hadj (fun h2 => absurd h2 h)
      have hccn : ¬ cc < 0 := fun h => hadj (fun _ => h)
      have hf : gH N ((k0 : Int) + 1) row plus = false := eD (k := k) (by omega) (by
        rw [hst, decide_eq_false (by omega : ¬ k = 0), decide_eq_false (fun h => hccn (hccl.2 h))]; rfl)
      rw [hf]
      repeat' (first | ((apply ax_c; apply dT 172; exact rfl; exact rfl; exact gb; (intro W X hN hs; exact aC lE rfl (dV _ q s (hqo hk0) hso)); (rintro _ _ _ _ ⟨rfl, hE⟩; first | exact hE | exact Fresh.ext hf); rintro W X _ _ hN hs ⟨rfl, hE⟩; rw [← hcc]; have hs := hs.ext hE; (try simp only [zcc] at hs); refine JX.at hs ?_)) | (apply aR) | ((first | (apply aI) | (apply JX_f; exact rfl; intro W X hs) | (apply fK; exact rfl; exact rfl; exact gb; intro W X hs)); (first | (apply aV; first | exact bI (i := ((k : Int) - 1).toNat) (hrow.st hs) (hprev hk0) rfl rfl aA | exact bI (i := k) (hrow.st hs) hv rfl rfl aA | exact aU hs rfl rfl aA | exact aJ hs rfl aA) | (apply aQ; exact aH rfl aA) | (apply aF; exact aB rfl aA) | (apply dZ; exact dI rfl rfl (by omega) aA) | (apply aK; exact aM rfl rfl rfl aA) | (apply cF; exact bW rfl gb rfl aA) | (apply aO; exact aN rfl rfl (by omega) (by omega) aA)); first | (exact rfl; exact rfl) | exact rfl) | (apply bB) | (apply aG) | (apply bC) | (apply cI; refine cZ rfl ?_) | (apply bJ) | (apply aL (t := 12); refine JL_o (by apply bE; exact aX hs) rfl rfl ?_; rintro _ _ ⟨b12, rfl, hb12, hs, hE⟩) | (apply bH; refine JL_u (by apply bA; exact aZ hs rfl rfl rfl) rfl ?_; rintro _ _ ⟨hs, hF⟩) | (apply aS; first | refine bF rfl ob ?_ | refine bZ rfl gb ?_) | (apply dB; (refine dE (id := 6) [0, 1, 3, 7, 7, 23, 63, 127, 7, 511, 1023, 2047, 4095, 8191, 8191, 24575, 65535, 131071, 262143, 524287, 1048575, 1048575, 3145727, 8388607, 1048575, 33554431, 67108863] [(0, 0), (1, 0), (2, 0), (3, 0), (4, 0), (5, 0), (6, 0), (7, 0), (8, 0), (9, 1), (10, 0), (11, 0), (12, 0), (13, 0), (14, 0), (15, 0), (16, 1), (17, 0), (18, 0), (19, 0), (20, 0), (21, 0), (22, 0), (24, 0), (23, 1), (25, 0), (26, 0)] [] hs eI (by kernel_rfl) (by kernel_rfl) (by kernel_rfl) (by kernel_rfl) (by kernel_rfl) ?_)) | (refine dA (fun W hs => ?_)) | (refine eM rfl rfl gb rfl ?_) | (refine eO rfl rfl gb rfl ?_) | (apply dP))
      refine aY Tryz.func120 rfl (.tmp rfl .nil) ⟨rfl, hs.frm.ext⟩
    have hadB : (decide (k = 0) || decide (q.1 < s.1)) = true := by
      by_cases e : k = 0
      · rw [decide_eq_true e]; rfl
      · rw [decide_eq_true (hccl.1 (hadj (by omega)))]; exact Bool.or_true _
    rw [hadB, Bool.true_and] at hst
    obtain ⟨ib, his⟩ : ∃ ib, isM N s.2 = ib := ⟨_, rfl⟩
    obtain ⟨hb, hhas⟩ : ∃ hb, hasT T s.1 = hb := ⟨_, rfl⟩
    rw [his, hhas] at hst
    cases plus with
    | true =>
      cases ib with
      | false =>
        rw [eD (k := k) (by omega) (by rw [hst]; rfl)]
        repeat' (first | ((apply ax_c; apply dT 172; exact rfl; exact rfl; exact gb; (intro W X hN hs; exact aC lE rfl (dV _ q s (hqo (by assumption)) hso)); (rintro _ _ _ _ ⟨rfl, hE⟩; first | exact hE | exact Fresh.ext hf); rintro W X _ _ hN hs ⟨rfl, hE⟩; rw [← hcc]; have hs := hs.ext hE; (try simp only [zcc] at hs); refine JX.at hs ?_)) | ((apply ax_c; apply dT 105; exact rfl; exact rfl; exact gb; (intro W X hN hs; exact aC eT rfl (is_r _ (some ⟨p, o, none⟩) a2 n c n2 c2 N s.2 (h.st hs) hso.2)); (rintro _ _ _ _ ⟨rfl, hE⟩; first | exact hE | exact Fresh.ext hf); rintro W X _ _ hN hs ⟨rfl, hE⟩; rw [his]; have hs := hs.ext hE; (try simp only [zcc] at hs); refine JX.at hs ?_)) | (apply aR) | ((first | (apply aI) | (apply JX_f; exact rfl; intro W X hs) | (apply fK; exact rfl; exact rfl; exact gb; intro W X hs)); (first | (apply aV; first | exact bI (i := ((k : Int) - 1).toNat) (hrow.st hs) (hprev (by assumption)) rfl rfl aA | exact bI (i := k) (hrow.st hs) hv rfl rfl aA | exact aU hs rfl rfl aA | exact aJ hs rfl aA) | (apply aQ; exact aH rfl aA) | (apply aF; exact aB rfl aA) | (apply aT; exact aP rfl rfl aA) | (apply dZ; exact dI rfl rfl (by omega) aA) | (apply aK; exact aM rfl rfl rfl aA) | (apply cB; exact cE rfl aA) | (apply cF; first | exact bW rfl gb rfl aA | exact bO rfl gb rfl aA) | (apply aO; exact aN rfl rfl (by omega) (by omega) aA)); first | (exact rfl; exact rfl) | exact rfl) | (apply bB) | (apply aG) | (apply bC) | (apply cI; refine cZ rfl ?_) | (apply bJ) | (apply aL (t := 12); refine JL_o (by apply bE; exact aX hs) rfl rfl ?_; rintro _ _ ⟨b12, rfl, hb12, hs, hE⟩) | (apply bH; refine JL_u (by apply bA; exact aZ hs rfl rfl rfl) rfl ?_; rintro _ _ ⟨hs, hF⟩) | (apply aS; first | refine bF rfl ob ?_ | refine bZ rfl gb ?_) | (apply dB; (refine dE (id := 6) [0, 1, 3, 7, 7, 23, 63, 127, 7, 511, 1023, 2047, 4095, 8191, 8191, 24575, 65535, 131071, 262143, 524287, 1048575, 1048575, 3145727, 8388607, 1048575, 33554431, 67108863] [(0, 0), (1, 0), (2, 0), (3, 0), (4, 0), (5, 0), (6, 0), (7, 0), (8, 0), (9, 1), (10, 0), (11, 0), (12, 0), (13, 0), (14, 0), (15, 0), (16, 1), (17, 0), (18, 0), (19, 0), (20, 0), (21, 0), (22, 0), (24, 0), (23, 1), (25, 0), (26, 0)] [] hs eI (by kernel_rfl) (by kernel_rfl) (by kernel_rfl) (by kernel_rfl) (by kernel_rfl) ?_)) | (refine dA (fun W hs => ?_)) | (refine eM rfl rfl gb rfl ?_) | (refine eO rfl rfl gb rfl ?_) | (refine dQ rfl rfl (fun hq => ?_) (fun hq => ?_); (fail_if_success (exact absurd (by clear hq; first | assumption | omega) (not_not_intro hq))); rotate_left; (fail_if_success (exact absurd (by clear hq; first | assumption | omega) hq)); rotate_left) | (apply dP))
        all_goals refine aY Tryz.func120 rfl (.tmp rfl .nil) ⟨rfl, hs.frm.ext⟩
      | true =>
        obtain ⟨j, yj, hj, hyj, hyu⟩ := isM_true.1 his
        have hjl := (List.getElem?_eq_some_iff.1 hyj).1
        obtain ⟨rj, hrj0, f1, f2, f3, f4⟩ := hm.get hyj
        have mj1 : Sl dId All w rj.2.1.1 rj.2.1.2.1 rj.2.1.2.2 yj.2.1 := f2
        have mj2 : Sl dStp All w rj.2.2.1.1 rj.2.2.1.2.1 rj.2.2.1.2.2 yj.2.2.1 := f3
        have mj3 : Sl dStp All w rj.2.2.2.1 rj.2.2.2.2.1 rj.2.2.2.2.2 yj.2.2.2 := f4
        have hrj : rs[(s.2 - 1).toNat]? = some rj := by rw [hj, show ((j : Int) + 1 - 1).toNat = j by omega]; exact hrj0
        have hsj : 1 ≤ s.2 ∧ s.2 ≤ n := by omega
        have hnj : dS N s.2 = yj := by rw [hj]; exact dK hyj
        rw [hnj] at hst
        cases hb with
        | true =>
          rw [eD (k := k) (by omega) (by rw [hst]; rfl)]
          repeat' (first | ((apply ax_c; apply dT 172; exact rfl; exact rfl; exact gb; (intro W X hN hs; exact aC lE rfl (dV _ q s (hqo (by assumption)) hso)); (rintro _ _ _ _ ⟨rfl, hE⟩; first | exact hE | exact Fresh.ext hf); rintro W X _ _ hN hs ⟨rfl, hE⟩; rw [← hcc]; have hs := hs.ext hE; (try simp only [zcc] at hs); refine JX.at hs ?_)) | ((apply ax_c; apply dT 105; exact rfl; exact rfl; exact gb; (intro W X hN hs; exact aC eT rfl (is_r _ (some ⟨p, o, none⟩) a2 n c n2 c2 N s.2 (h.st hs) hso.2)); (rintro _ _ _ _ ⟨rfl, hE⟩; first | exact hE | exact Fresh.ext hf); rintro W X _ _ hN hs ⟨rfl, hE⟩; rw [his]; have hs := hs.ext hE; (try simp only [zcc] at hs); refine JX.at hs ?_)) | ((apply ax_c; apply dT 47; exact rfl; exact rfl; exact gb; (intro W X hN hs; exact aC en47 rfl (oT _ r0.2.1.1 r0.2.1.2.1 r0.2.1.2.2 T s.1 (mT.st hs))); (rintro _ _ _ _ ⟨rfl, hE⟩; first | exact hE | exact Fresh.ext hf); rintro W X _ _ hN hs ⟨rfl, hE⟩; rw [hhas]; have hs := hs.ext hE; (try simp only [zcc] at hs); refine JX.at hs ?_)) | (apply aR) | ((first | (apply aI) | (apply JX_f; exact rfl; intro W X hs) | (apply fK; exact rfl; exact rfl; exact gb; intro W X hs)); (first | (apply aV; first | exact bI (i := ((k : Int) - 1).toNat) (hrow.st hs) (hprev (by assumption)) rfl rfl aA | exact bI (i := k) (hrow.st hs) hv rfl rfl aA | exact aU hs rfl rfl aA | exact aJ hs rfl aA) | (apply aQ; exact aH rfl aA) | (apply aF; exact aB rfl aA) | (apply aT; exact aP rfl rfl aA) | (apply dZ; exact dI rfl rfl (by omega) aA) | (apply aK; first | exact aM rfl rfl rfl aA | exact jE rfl rfl aA) | (apply cB; exact cE rfl aA) | (apply cF; first | exact bW rfl gb rfl aA | exact bO rfl gb rfl aA) | (apply aO; exact aN rfl rfl (by omega) (by omega) aA)); first | (exact rfl; exact rfl) | exact rfl) | (apply bB) | (apply aG) | (apply bC) | (apply cI; refine cZ rfl ?_) | (apply bJ) | (apply aL (t := 12); refine JL_o (by apply bE; exact aX hs) rfl rfl ?_; rintro _ _ ⟨b12, rfl, hb12, hs, hE⟩) | (apply bH; refine JL_u (by apply bA; exact aZ hs rfl rfl rfl) rfl ?_; rintro _ _ ⟨hs, hF⟩) | (apply aS; first | refine bF rfl ob ?_ | refine bZ rfl gb ?_) | (apply dB; (refine dE (id := 6) [0, 1, 3, 7, 7, 23, 63, 127, 7, 511, 1023, 2047, 4095, 8191, 8191, 24575, 65535, 131071, 262143, 524287, 1048575, 1048575, 3145727, 8388607, 1048575, 33554431, 67108863] [(0, 0), (1, 0), (2, 0), (3, 0), (4, 0), (5, 0), (6, 0), (7, 0), (8, 0), (9, 1), (10, 0), (11, 0), (12, 0), (13, 0), (14, 0), (15, 0), (16, 1), (17, 0), (18, 0), (19, 0), (20, 0), (21, 0), (22, 0), (24, 0), (23, 1), (25, 0), (26, 0)] [] hs eI (by kernel_rfl) (by kernel_rfl) (by kernel_rfl) (by kernel_rfl) (by kernel_rfl) ?_)) | (refine dA (fun W hs => ?_)) | (refine eM rfl rfl gb rfl ?_) | (refine eO rfl rfl gb rfl ?_) | (refine dQ rfl rfl (fun hq => ?_) (fun hq => ?_); (fail_if_success (exact absurd (by clear hq; first | assumption | omega) (not_not_intro hq))); rotate_left; (fail_if_success (exact absurd (by clear hq; first | assumption | omega) hq)); rotate_left) | (apply dP))
          all_goals refine aY Tryz.func120 rfl (.tmp rfl .nil) ⟨rfl, hs.frm.ext⟩
        | false =>
          obtain ⟨z, hz⟩ : ∃ z, z = hM T s.1 := ⟨_, rfl⟩
          obtain ⟨ZL, hZL⟩ : ∃ z, z = gG T s.1 := ⟨_, rfl⟩
          have hzt : wI true T s.1 = z := by rw [hz]; rfl
          have hzl : wH true T s.1 = ZL := by rw [hZL]; rfl
          have hbk : wA yj true = yj.2.2.2 := rfl
          have hZo : ∀ x ∈ ZL, okId x := by rw [hZL]; unfold gG; split; exact (fun x hx => (insT_mem.1 hx).elim (fun e => e ▸ hso.1) (fun e => mO mT x e)); exact (fun x hx => by cases hx)
          rw [hzt, hzl, hbk] at hst
          by_cases hz0 : z = 0
          rotate_left
          · rw [eD (k := k) (by omega) (by rw [hst, decide_eq_false hz0]; rfl)]
            repeat' (first | ((apply ax_c; apply dT 172; exact rfl; exact rfl; exact gb; (intro W X hN hs; exact aC lE rfl (dV _ q s (hqo (by assumption)) hso)); (rintro _ _ _ _ ⟨rfl, hE⟩; first | exact hE | exact Fresh.ext hf); rintro W X _ _ hN hs ⟨rfl, hE⟩; rw [← hcc]; have hs := hs.ext hE; (try simp only [zcc] at hs); refine JX.at hs ?_)) | ((apply ax_c; apply dT 105; exact rfl; exact rfl; exact gb; (intro W X hN hs; exact aC eT rfl (is_r _ (some ⟨p, o, none⟩) a2 n c n2 c2 N s.2 (h.st hs) hso.2)); (rintro _ _ _ _ ⟨rfl, hE⟩; first | exact hE | exact Fresh.ext hf); rintro W X _ _ hN hs ⟨rfl, hE⟩; rw [his]; have hs := hs.ext hE; (try simp only [zcc] at hs); refine JX.at hs ?_)) | ((apply ax_c; apply dT 47; exact rfl; exact rfl; exact gb; (intro W X hN hs; exact aC en47 rfl (oT _ r0.2.1.1 r0.2.1.2.1 r0.2.1.2.2 T s.1 (mT.st hs))); (rintro _ _ _ _ ⟨rfl, hE⟩; first | exact hE | exact Fresh.ext hf); rintro W X _ _ hN hs ⟨rfl, hE⟩; rw [hhas]; have hs := hs.ext hE; (try simp only [zcc] at hs); refine JX.at hs ?_)) | ((apply aW 45; refine JL_o (by exact aC en45 rfl (lM _ r0.2.1.1 r0.2.1.2.1 r0.2.1.2.2 T s.1 (mT.st hs) hso.1)) rfl rfl ?_; rintro _ _ ⟨aw, rfl, hf⟩; rw [← hZL] at hf; rw [← hz, ← hZL]; have hs := hs.fresh hf; (try simp only [zcc] at hs))) | (apply aR) | ((first | (apply aI) | (apply JX_f; exact rfl; intro W X hs) | (apply fK; exact rfl; exact rfl; exact gb; intro W X hs)); (first | (apply aV; first | exact bI (i := ((k : Int) - 1).toNat) (hrow.st hs) (hprev (by assumption)) rfl rfl aA | exact bI (i := k) (hrow.st hs) hv rfl rfl aA | exact bI (i := (s.2 - 1).toNat) (hr.st hs) hrj rfl rfl aA | exact aU hs rfl rfl aA | exact aJ hs rfl aA) | (apply aQ; exact aH rfl aA) | (apply aF; exact aB rfl aA) | (apply aT; exact aP rfl rfl aA) | (apply dZ; exact dI rfl rfl (by omega) aA) | (apply aK; first | exact aM rfl rfl rfl aA | exact jE rfl rfl aA) | (apply cB; exact cE rfl aA) | (apply cF; first | exact bW rfl gb rfl aA | exact bO rfl gb rfl aA) | (apply bS; exact bM rfl rfl aA) | (apply aO; exact aN rfl rfl (by omega) (by omega) aA)); first | (exact rfl; exact rfl) | exact rfl) | (apply bB) | (apply aG) | (apply bC) | (apply cI; refine cZ rfl ?_) | (apply bJ) | (apply aL (t := 12); refine JL_o (by apply bE; exact aX hs) rfl rfl ?_; rintro _ _ ⟨b12, rfl, hb12, hs, hE⟩) | (apply aL (t := 13); refine JL_o (by apply bE; exact aX hs) rfl rfl ?_; rintro _ _ ⟨b13, rfl, hb13, hs, hE⟩) | (apply bH; refine JL_u (by apply bA; exact aZ hs rfl rfl rfl) rfl ?_; rintro _ _ ⟨hs, hF⟩) | (apply cW; (refine fM rfl gb rfl ?_)) | (apply aS; first | refine bF rfl ob ?_ | refine bZ rfl gb ?_ | refine bV rfl gb ?_) | (apply dB; (refine dE (id := 6) [0, 1, 3, 7, 7, 23, 63, 127, 7, 511, 1023, 2047, 4095, 8191, 8191, 24575, 65535, 131071, 262143, 524287, 1048575, 1048575, 3145727, 8388607, 1048575, 33554431, 67108863] [(0, 0), (1, 0), (2, 0), (3, 0), (4, 0), (5, 0), (6, 0), (7, 0), (8, 0), (9, 1), (10, 0), (11, 0), (12, 0), (13, 0), (14, 0), (15, 0), (16, 1), (17, 0), (18, 0), (19, 0), (20, 0), (21, 0), (22, 0), (24, 0), (23, 1), (25, 0), (26, 0)] [] hs eI (by kernel_rfl) (by kernel_rfl) (by kernel_rfl) (by kernel_rfl) (by kernel_rfl) ?_)) | (refine dA (fun W hs => ?_)) | (refine eM rfl rfl gb rfl ?_) | (refine eO rfl rfl gb rfl ?_) | (refine dQ rfl rfl (fun hq => ?_) (fun hq => ?_); (fail_if_success (exact absurd (by clear hq; first | assumption | omega) (not_not_intro hq))); rotate_left; (fail_if_success (exact absurd (by clear hq; first | assumption | omega) hq)); rotate_left) | (apply dP))
            all_goals refine aY Tryz.func120 rfl (.tmp rfl .nil) ⟨rfl, hs.frm.ext⟩
          rw [decide_eq_true hz0] at hst
          have hz1 : ¬ z ≠ 0 := fun e => e hz0
          by_cases hty : yj.2.1 = ZL
          rotate_left
          · have hte : decide (yj.2.1 = ZL) = false := decide_eq_false hty
            rw [eD (k := k) (by omega) (by rw [hst, hte]; rfl)]
            repeat' (first | ((apply ax_c; apply dT 172; exact rfl; exact rfl; exact gb; (intro W X hN hs; exact aC lE rfl (dV _ q s (hqo (by assumption)) hso)); (rintro _ _ _ _ ⟨rfl, hE⟩; first | exact hE | exact Fresh.ext hf); rintro W X _ _ hN hs ⟨rfl, hE⟩; rw [← hcc]; have hs := hs.ext hE; (try simp only [zcc] at hs); refine JX.at hs ?_)) | ((apply ax_c; apply dT 105; exact rfl; exact rfl; exact gb; (intro W X hN hs; exact aC eT rfl (is_r _ (some ⟨p, o, none⟩) a2 n c n2 c2 N s.2 (h.st hs) hso.2)); (rintro _ _ _ _ ⟨rfl, hE⟩; first | exact hE | exact Fresh.ext hf); rintro W X _ _ hN hs ⟨rfl, hE⟩; rw [his]; have hs := hs.ext hE; (try simp only [zcc] at hs); refine JX.at hs ?_)) | ((apply ax_c; apply dT 47; exact rfl; exact rfl; exact gb; (intro W X hN hs; exact aC en47 rfl (oT _ r0.2.1.1 r0.2.1.2.1 r0.2.1.2.2 T s.1 (mT.st hs))); (rintro _ _ _ _ ⟨rfl, hE⟩; first | exact hE | exact Fresh.ext hf); rintro W X _ _ hN hs ⟨rfl, hE⟩; rw [hhas]; have hs := hs.ext hE; (try simp only [zcc] at hs); refine JX.at hs ?_)) | ((apply aW 45; refine JL_o (by exact aC en45 rfl (lM _ r0.2.1.1 r0.2.1.2.1 r0.2.1.2.2 T s.1 (mT.st hs) hso.1)) rfl rfl ?_; rintro _ _ ⟨aw, rfl, hf⟩; rw [← hZL] at hf; rw [← hz, ← hZL]; have hs := hs.fresh hf; (try simp only [zcc] at hs))) | ((apply cN 43; refine cX rfl gb (by exact aC en43 rfl (eJ _ rj.2.1.1 aw rj.2.1.2.1 rj.2.1.2.2 ZL.length ZL.length yj.2.1 ZL (mj1.st hs) (slU hs zmm hZo))) rfl rfl ?_; rintro _ _ ⟨rfl, hE⟩; rw [hte]; have hs := hs.ext hE; (try simp only [zcc] at hs))) | (apply aR) | ((first | (apply aI) | (apply bX; exact rfl; exact gb) | (apply JX_f; exact rfl; intro W X hs) | (apply fK; exact rfl; exact rfl; exact gb; intro W X hs)); (first | (apply aV; first | exact bI (i := ((k : Int) - 1).toNat) (hrow.st hs) (hprev (by assumption)) rfl rfl aA | exact bI (i := k) (hrow.st hs) hv rfl rfl aA | exact bI (i := (s.2 - 1).toNat) (hr.st hs) hrj rfl rfl aA | exact aU hs rfl rfl aA | exact aJ hs rfl aA) | (apply aQ; exact aH rfl aA) | (apply aF; exact aB rfl aA) | (apply aT; exact aP rfl rfl aA) | (apply dZ; exact dI rfl rfl (by omega) aA) | (apply aK; first | exact aM rfl rfl rfl aA | exact jE rfl rfl aA) | (apply cB; exact cE rfl aA) | (apply cF; first | exact bW rfl gb rfl aA | exact bO rfl gb rfl aA) | (apply bS; exact bM rfl rfl aA) | (apply aO; exact aN rfl rfl (by omega) (by omega) aA)); first | (exact rfl; exact rfl) | exact rfl) | (apply bB) | (apply aG) | (apply bC) | (apply cI; refine cZ rfl ?_) | (apply bJ) | (apply aL (t := 12); refine JL_o (by apply bE; exact aX hs) rfl rfl ?_; rintro _ _ ⟨b12, rfl, hb12, hs, hE⟩) | (apply aL (t := 13); refine JL_o (by apply bE; exact aX hs) rfl rfl ?_; rintro _ _ ⟨b13, rfl, hb13, hs, hE⟩) | (apply bH; refine JL_u (by apply bA; exact aZ hs rfl rfl rfl) rfl ?_; rintro _ _ ⟨hs, hF⟩) | (apply cW; (refine fM rfl gb rfl ?_)) | (apply aS; first | refine bF rfl ob ?_ | refine bZ rfl gb ?_ | refine bV rfl gb ?_) | (apply dB; (refine dE (id := 6) [0, 1, 3, 7, 7, 23, 63, 127, 7, 511, 1023, 2047, 4095, 8191, 8191, 24575, 65535, 131071, 262143, 524287, 1048575, 1048575, 3145727, 8388607, 1048575, 33554431, 67108863] [(0, 0), (1, 0), (2, 0), (3, 0), (4, 0), (5, 0), (6, 0), (7, 0), (8, 0), (9, 1), (10, 0), (11, 0), (12, 0), (13, 0), (14, 0), (15, 0), (16, 1), (17, 0), (18, 0), (19, 0), (20, 0), (21, 0), (22, 0), (24, 0), (23, 1), (25, 0), (26, 0)] [] hs eI (by kernel_rfl) (by kernel_rfl) (by kernel_rfl) (by kernel_rfl) (by kernel_rfl) ?_)) | (refine dA (fun W hs => ?_)) | (refine eM rfl rfl gb rfl ?_) | (refine eO rfl rfl gb rfl ?_) | (refine dQ rfl rfl (fun hq => ?_) (fun hq => ?_); (fail_if_success (exact absurd (by clear hq; first | assumption | omega) (not_not_intro hq))); rotate_left; (fail_if_success (exact absurd (by clear hq; first | assumption | omega) hq)); rotate_left) | (apply dP))
            all_goals refine aY Tryz.func120 rfl (.tmp rfl .nil) ⟨rfl, hs.frm.ext⟩
          have hte : decide (yj.2.1 = ZL) = true := decide_eq_true hty
          rw [hte] at hst
          by_cases hin : (s.1, (k0 : Int) + 1) ∈ yj.2.2.2
          rotate_left
          · have hke : decide ((s.1, (k0 : Int) + 1) ∈ yj.2.2.2) = false := decide_eq_false hin
            rw [eD (k := k) (by omega) (by rw [hst, hke]; rfl)]
            repeat' (first | ((apply ax_c; apply dT 172; exact rfl; exact rfl; exact gb; (intro W X hN hs; exact aC lE rfl (dV _ q s (hqo (by assumption)) hso)); (rintro _ _ _ _ ⟨rfl, hE⟩; first | exact hE | exact Fresh.ext hf); rintro W X _ _ hN hs ⟨rfl, hE⟩; rw [← hcc]; have hs := hs.ext hE; (try simp only [zcc] at hs); refine JX.at hs ?_)) | ((apply ax_c; apply dT 105; exact rfl; exact rfl; exact gb; (intro W X hN hs; exact aC eT rfl (is_r _ (some ⟨p, o, none⟩) a2 n c n2 c2 N s.2 (h.st hs) hso.2)); (rintro _ _ _ _ ⟨rfl, hE⟩; first | exact hE | exact Fresh.ext hf); rintro W X _ _ hN hs ⟨rfl, hE⟩; rw [his]; have hs := hs.ext hE; (try simp only [zcc] at hs); refine JX.at hs ?_)) | ((apply ax_c; apply dT 47; exact rfl; exact rfl; exact gb; (intro W X hN hs; exact aC en47 rfl (oT _ r0.2.1.1 r0.2.1.2.1 r0.2.1.2.2 T s.1 (mT.st hs))); (rintro _ _ _ _ ⟨rfl, hE⟩; first | exact hE | exact Fresh.ext hf); rintro W X _ _ hN hs ⟨rfl, hE⟩; rw [hhas]; have hs := hs.ext hE; (try simp only [zcc] at hs); refine JX.at hs ?_)) | ((apply aW 45; refine JL_o (by exact aC en45 rfl (lM _ r0.2.1.1 r0.2.1.2.1 r0.2.1.2.2 T s.1 (mT.st hs) hso.1)) rfl rfl ?_; rintro _ _ ⟨aw, rfl, hf⟩; rw [← hZL] at hf; rw [← hz, ← hZL]; have hs := hs.fresh hf; (try simp only [zcc] at hs))) | ((apply cN 43; refine cX rfl gb (by exact aC en43 rfl (eJ _ rj.2.1.1 aw rj.2.1.2.1 rj.2.1.2.2 ZL.length ZL.length yj.2.1 ZL (mj1.st hs) (slU hs zmm hZo))) rfl rfl ?_; rintro _ _ ⟨rfl, hE⟩; rw [hte]; have hs := hs.ext hE; (try simp only [zcc] at hs))) | ((apply cN 184; refine cX rfl gb (by exact aC en184 rfl (qT _ rj.2.2.2.1 rj.2.2.2.2.1 rj.2.2.2.2.2 yj.2.2.2 (s.1, (k0 : Int) + 1) (mj3.st hs))) rfl rfl ?_; rintro _ _ ⟨rfl, hE⟩; rw [hke]; have hs := hs.ext hE; (try simp only [zcc] at hs))) | (apply aR) | ((first | (apply aI) | (apply bX; exact rfl; exact gb) | (apply JX_f; exact rfl; intro W X hs) | (apply fK; exact rfl; exact rfl; exact gb; intro W X hs)); (first | (apply aV; first | exact bI (i := ((k : Int) - 1).toNat) (hrow.st hs) (hprev (by assumption)) rfl rfl aA | exact bI (i := k) (hrow.st hs) hv rfl rfl aA | exact bI (i := (s.2 - 1).toNat) (hr.st hs) hrj rfl rfl aA | exact aU hs rfl rfl aA | exact aJ hs rfl aA) | (apply aQ; exact aH rfl aA) | (apply aF; exact aB rfl aA) | (apply aT; exact aP rfl rfl aA) | (apply dZ; exact dI rfl rfl (by omega) aA) | (apply aK; first | exact aM rfl rfl rfl aA | exact jE rfl rfl aA) | (apply cB; exact cE rfl aA) | (apply cF; first | exact bW rfl gb rfl aA | exact bO rfl gb rfl aA) | (apply bS; exact bM rfl rfl aA) | (apply aO; exact aN rfl rfl (by omega) (by omega) aA) | (apply cY; exact cL rfl (by (simp only [bld, cQ, bQ, Value.cells, List.take_succ_cons, List.take_zero, List.drop_succ_cons, List.drop_zero, List.cons_append, List.nil_append, List.length_cons, List.length_nil, List.getElem?_cons_zero, List.getElem?_cons_succ, Option.map_some, List.append_nil, Nat.reduceAdd, Nat.reduceMul, Nat.zero_add, Nat.reduceLeDiff, and_self, if_true, List.toList_toArray, Nat.le_refl, Nat.zero_mul, Nat.one_mul]; first | done | rfl)) aA)); first | (exact rfl; exact rfl) | exact rfl) | (apply bB) | (apply aG) | (apply bC) | (apply cI; refine cZ rfl ?_) | (apply bJ) | (apply aL (t := 12); refine JL_o (by apply bE; exact aX hs) rfl rfl ?_; rintro _ _ ⟨b12, rfl, hb12, hs, hE⟩) | (apply aL (t := 13); refine JL_o (by apply bE; exact aX hs) rfl rfl ?_; rintro _ _ ⟨b13, rfl, hb13, hs, hE⟩) | (apply bH; refine JL_u (by apply bA; exact aZ hs rfl rfl rfl) rfl ?_; rintro _ _ ⟨hs, hF⟩) | (apply aS; first | refine bF rfl ob ?_ | refine bZ rfl gb ?_ | refine bV rfl gb ?_) | (apply dB; (refine dE (id := 6) [0, 1, 3, 7, 7, 23, 63, 127, 7, 511, 1023, 2047, 4095, 8191, 8191, 24575, 65535, 131071, 262143, 524287, 1048575, 1048575, 3145727, 8388607, 1048575, 33554431, 67108863] [(0, 0), (1, 0), (2, 0), (3, 0), (4, 0), (5, 0), (6, 0), (7, 0), (8, 0), (9, 1), (10, 0), (11, 0), (12, 0), (13, 0), (14, 0), (15, 0), (16, 1), (17, 0), (18, 0), (19, 0), (20, 0), (21, 0), (22, 0), (24, 0), (23, 1), (25, 0), (26, 0)] [] hs eI (by kernel_rfl) (by kernel_rfl) (by kernel_rfl) (by kernel_rfl) (by kernel_rfl) ?_)) | (refine dA (fun W hs => ?_)) | (refine eM rfl rfl gb rfl ?_) | (refine eO rfl rfl gb rfl ?_) | (refine dQ rfl rfl (fun hq => ?_) (fun hq => ?_); (fail_if_success (exact absurd (by clear hq; first | assumption | omega) (not_not_intro hq))); rotate_left; (fail_if_success (exact absurd (by clear hq; first | assumption | omega) hq)); rotate_left) | (apply dP))
            all_goals refine aY Tryz.func120 rfl (.tmp rfl .nil) ⟨rfl, hs.frm.ext⟩
          have hke : decide ((s.1, (k0 : Int) + 1) ∈ yj.2.2.2) = true := decide_eq_true hin
          rw [hke] at hst
          repeat' (first | ((apply ax_c; apply dT 172; exact rfl; exact rfl; exact gb; (intro W X hN hs; exact aC lE rfl (dV _ q s (hqo (by assumption)) hso)); (rintro _ _ _ _ ⟨rfl, hE⟩; first | exact hE | exact Fresh.ext hf); rintro W X _ _ hN hs ⟨rfl, hE⟩; rw [← hcc]; have hs := hs.ext hE; (try simp only [zcc] at hs); refine JX.at hs ?_)) | ((apply ax_c; apply dT 105; exact rfl; exact rfl; exact gb; (intro W X hN hs; exact aC eT rfl (is_r _ (some ⟨p, o, none⟩) a2 n c n2 c2 N s.2 (h.st hs) hso.2)); (rintro _ _ _ _ ⟨rfl, hE⟩; first | exact hE | exact Fresh.ext hf); rintro W X _ _ hN hs ⟨rfl, hE⟩; rw [his]; have hs := hs.ext hE; (try simp only [zcc] at hs); refine JX.at hs ?_)) | ((apply ax_c; apply dT 47; exact rfl; exact rfl; exact gb; (intro W X hN hs; exact aC en47 rfl (oT _ r0.2.1.1 r0.2.1.2.1 r0.2.1.2.2 T s.1 (mT.st hs))); (rintro _ _ _ _ ⟨rfl, hE⟩; first | exact hE | exact Fresh.ext hf); rintro W X _ _ hN hs ⟨rfl, hE⟩; rw [hhas]; have hs := hs.ext hE; (try simp only [zcc] at hs); refine JX.at hs ?_)) | ((apply aW 45; refine JL_o (by exact aC en45 rfl (lM _ r0.2.1.1 r0.2.1.2.1 r0.2.1.2.2 T s.1 (mT.st hs) hso.1)) rfl rfl ?_; rintro _ _ ⟨aw, rfl, hf⟩; rw [← hZL] at hf; rw [← hz, ← hZL]; have hs := hs.fresh hf; (try simp only [zcc] at hs))) | ((apply cN 43; refine cX rfl gb (by exact aC en43 rfl (eJ _ rj.2.1.1 aw rj.2.1.2.1 rj.2.1.2.2 ZL.length ZL.length yj.2.1 ZL (mj1.st hs) (slU hs zmm hZo))) rfl rfl ?_; rintro _ _ ⟨rfl, hE⟩; rw [hte]; have hs := hs.ext hE; (try simp only [zcc] at hs))) | ((apply cN 184; refine cX rfl gb (by exact aC en184 rfl (qT _ rj.2.2.2.1 rj.2.2.2.2.1 rj.2.2.2.2.2 yj.2.2.2 (s.1, (k0 : Int) + 1) (mj3.st hs))) rfl rfl ?_; rintro _ _ ⟨rfl, hE⟩; rw [hke]; have hs := hs.ext hE; (try simp only [zcc] at hs))) | (apply aR) | ((first | (apply aI) | (apply bX; exact rfl; exact gb) | (apply JX_f; exact rfl; intro W X hs) | (apply fK; exact rfl; exact rfl; exact gb; intro W X hs)); (first | (apply aV; first | exact bI (i := ((k : Int) - 1).toNat) (hrow.st hs) (hprev (by assumption)) rfl rfl aA | exact bI (i := k) (hrow.st hs) hv rfl rfl aA | exact bI (i := (s.2 - 1).toNat) (hr.st hs) hrj rfl rfl aA | exact aU hs rfl rfl aA | exact aJ hs rfl aA) | (apply aQ; exact aH rfl aA) | (apply aF; exact aB rfl aA) | (apply aT; exact aP rfl rfl aA) | (apply cJ; exact bR rfl rfl (by omega) (by first | (simp only [Int.reduceAdd]; exact rfl) | exact rfl) aA) | (apply dZ; exact dI rfl rfl (by omega) aA) | (apply aK; first | exact aM rfl rfl rfl aA | exact jE rfl rfl aA) | (apply cB; exact cE rfl aA) | (apply cF; first | exact bW rfl gb rfl aA | exact bO rfl gb rfl aA) | (apply bS; exact bM rfl rfl aA) | (apply aO; exact aN rfl rfl (by omega) (by omega) aA) | (apply cY; exact cL rfl (by (simp only [bld, cQ, bQ, Value.cells, List.take_succ_cons, List.take_zero, List.drop_succ_cons, List.drop_zero, List.cons_append, List.nil_append, List.length_cons, List.length_nil, List.getElem?_cons_zero, List.getElem?_cons_succ, Option.map_some, List.append_nil, Nat.reduceAdd, Nat.reduceMul, Nat.zero_add, Nat.reduceLeDiff, and_self, if_true, List.toList_toArray, Nat.le_refl, Nat.zero_mul, Nat.one_mul]; first | done | rfl)) aA)); first | (exact rfl; exact rfl) | exact rfl) | (apply bB) | (apply aG) | (apply bC) | (apply bN) | (apply bJ) | (apply aL (t := 12); refine JL_o (by apply bE; exact aX hs) rfl rfl ?_; rintro _ _ ⟨b12, rfl, hb12, hs, hE⟩) | (apply aL (t := 13); refine JL_o (by apply bE; exact aX hs) rfl rfl ?_; rintro _ _ ⟨b13, rfl, hb13, hs, hE⟩) | (apply bH; refine JL_u (by apply bA; exact aZ hs rfl rfl rfl) rfl ?_; rintro _ _ ⟨hs, hF⟩) | (apply aS; first | refine bF rfl ob ?_ | refine bZ rfl gb ?_ | refine bV rfl gb ?_) | (apply dB; (refine dE (id := 6) [0, 1, 3, 7, 7, 23, 63, 127, 7, 511, 1023, 2047, 4095, 8191, 8191, 24575, 65535, 131071, 262143, 524287, 1048575, 1048575, 3145727, 8388607, 1048575, 33554431, 67108863] [(0, 0), (1, 0), (2, 0), (3, 0), (4, 0), (5, 0), (6, 0), (7, 0), (8, 0), (9, 1), (10, 0), (11, 0), (12, 0), (13, 0), (14, 0), (15, 0), (16, 1), (17, 0), (18, 0), (19, 0), (20, 0), (21, 0), (22, 0), (24, 0), (23, 1), (25, 0), (26, 0)] [] hs eI (by kernel_rfl) (by kernel_rfl) (by kernel_rfl) (by kernel_rfl) (by kernel_rfl) ?_)) | (refine dA (fun W hs => ?_)) | (refine eM rfl rfl gb rfl ?_) | (refine eO rfl rfl gb rfl ?_) | (refine dQ rfl rfl (fun hq => ?_) (fun hq => ?_); (fail_if_success (exact absurd (by clear hq; first | assumption | omega) (not_not_intro hq))); rotate_left; (fail_if_success (exact absurd (by clear hq; first | assumption | omega) hq)); rotate_left) | (apply dP))
          all_goals refine ih (k + 1) _ _ ⟨hs.sel [3] (by decide), hlt, fun j2 hj2 => ?_⟩ (by omega) zss
          all_goals
            by_cases e : j2 = k
            · rw [e, hst]; rfl
            · exact hall j2 (by omega)
    | false =>
      cases ib with
      | false =>
        rw [eD (k := k) (by omega) (by rw [hst]; rfl)]
        repeat' (first | ((apply ax_c; apply dT 172; exact rfl; exact rfl; exact gb; (intro W X hN hs; exact aC lE rfl (dV _ q s (hqo (by assumption)) hso)); (rintro _ _ _ _ ⟨rfl, hE⟩; first | exact hE | exact Fresh.ext hf); rintro W X _ _ hN hs ⟨rfl, hE⟩; rw [← hcc]; have hs := hs.ext hE; (try simp only [zcc] at hs); refine JX.at hs ?_)) | ((apply ax_c; apply dT 105; exact rfl; exact rfl; exact gb; (intro W X hN hs; exact aC eT rfl (is_r _ (some ⟨p, o, none⟩) a2 n c n2 c2 N s.2 (h.st hs) hso.2)); (rintro _ _ _ _ ⟨rfl, hE⟩; first | exact hE | exact Fresh.ext hf); rintro W X _ _ hN hs ⟨rfl, hE⟩; rw [his]; have hs := hs.ext hE; (try simp only [zcc] at hs); refine JX.at hs ?_)) | (apply aR) | ((first | (apply aI) | (apply JX_f; exact rfl; intro W X hs) | (apply fK; exact rfl; exact rfl; exact gb; intro W X hs)); (first | (apply aV; first | exact bI (i := ((k : Int) - 1).toNat) (hrow.st hs) (hprev (by assumption)) rfl rfl aA | exact bI (i := k) (hrow.st hs) hv rfl rfl aA | exact aU hs rfl rfl aA | exact aJ hs rfl aA) | (apply aQ; exact aH rfl aA) | (apply aF; exact aB rfl aA) | (apply aT; exact aP rfl rfl aA) | (apply dZ; exact dI rfl rfl (by omega) aA) | (apply aK; exact aM rfl rfl rfl aA) | (apply cB; exact cE rfl aA) | (apply cF; first | exact bW rfl gb rfl aA | exact bO rfl gb rfl aA) | (apply aO; exact aN rfl rfl (by omega) (by omega) aA)); first | (exact rfl; exact rfl) | exact rfl) | (apply bB) | (apply aG) | (apply bC) | (apply cI; refine cZ rfl ?_) | (apply bJ) | (apply aL (t := 12); refine JL_o (by apply bE; exact aX hs) rfl rfl ?_; rintro _ _ ⟨b12, rfl, hb12, hs, hE⟩) | (apply bH; refine JL_u (by apply bA; exact aZ hs rfl rfl rfl) rfl ?_; rintro _ _ ⟨hs, hF⟩) | (apply aS; first | refine bF rfl ob ?_ | refine bZ rfl gb ?_) | (apply dB; (refine dE (id := 6) [0, 1, 3, 7, 7, 23, 63, 127, 7, 511, 1023, 2047, 4095, 8191, 8191, 24575, 65535, 131071, 262143, 524287, 1048575, 1048575, 3145727, 8388607, 1048575, 33554431, 67108863] [(0, 0), (1, 0), (2, 0), (3, 0), (4, 0), (5, 0), (6, 0), (7, 0), (8, 0), (9, 1), (10, 0), (11, 0), (12, 0), (13, 0), (14, 0), (15, 0), (16, 1), (17, 0), (18, 0), (19, 0), (20, 0), (21, 0), (22, 0), (24, 0), (23, 1), (25, 0), (26, 0)] [] hs eI (by kernel_rfl) (by kernel_rfl) (by kernel_rfl) (by kernel_rfl) (by kernel_rfl) ?_)) | (refine dA (fun W hs => ?_)) | (refine eM rfl rfl gb rfl ?_) | (refine eO rfl rfl gb rfl ?_) | (refine dQ rfl rfl (fun hq => ?_) (fun hq => ?_); (fail_if_success (exact absurd (by clear hq; first | assumption | omega) (not_not_intro hq))); rotate_left; (fail_if_success (exact absurd (by clear hq; first | assumption | omega) hq)); rotate_left) | (apply dP))
        all_goals refine aY Tryz.func120 rfl (.tmp rfl .nil) ⟨rfl, hs.frm.ext⟩
      | true =>
        obtain ⟨j, yj, hj, hyj, hyu⟩ := isM_true.1 his
        have hjl := (List.getElem?_eq_some_iff.1 hyj).1
        obtain ⟨rj, hrj0, f1, f2, f3, f4⟩ := hm.get hyj
        have mj1 : Sl dId All w rj.2.1.1 rj.2.1.2.1 rj.2.1.2.2 yj.2.1 := f2
        have mj2 : Sl dStp All w rj.2.2.1.1 rj.2.2.1.2.1 rj.2.2.1.2.2 yj.2.2.1 := f3
        have mj3 : Sl dStp All w rj.2.2.2.1 rj.2.2.2.2.1 rj.2.2.2.2.2 yj.2.2.2 := f4
        have hrj : rs[(s.2 - 1).toNat]? = some rj := by rw [hj, show ((j : Int) + 1 - 1).toNat = j by omega]; exact hrj0
        have hsj : 1 ≤ s.2 ∧ s.2 ≤ n := by omega
        have hnj : dS N s.2 = yj := by rw [hj]; exact dK hyj
        rw [hnj] at hst
        cases hb with
        | false =>
          rw [eD (k := k) (by omega) (by rw [hst]; rfl)]
          repeat' (first | ((apply ax_c; apply dT 172; exact rfl; exact rfl; exact gb; (intro W X hN hs; exact aC lE rfl (dV _ q s (hqo (by assumption)) hso)); (rintro _ _ _ _ ⟨rfl, hE⟩; first | exact hE | exact Fresh.ext hf); rintro W X _ _ hN hs ⟨rfl, hE⟩; rw [← hcc]; have hs := hs.ext hE; (try simp only [zcc] at hs); refine JX.at hs ?_)) | ((apply ax_c; apply dT 105; exact rfl; exact rfl; exact gb; (intro W X hN hs; exact aC eT rfl (is_r _ (some ⟨p, o, none⟩) a2 n c n2 c2 N s.2 (h.st hs) hso.2)); (rintro _ _ _ _ ⟨rfl, hE⟩; first | exact hE | exact Fresh.ext hf); rintro W X _ _ hN hs ⟨rfl, hE⟩; rw [his]; have hs := hs.ext hE; (try simp only [zcc] at hs); refine JX.at hs ?_)) | ((apply ax_c; apply dT 47; exact rfl; exact rfl; exact gb; (intro W X hN hs; exact aC en47 rfl (oT _ r0.2.1.1 r0.2.1.2.1 r0.2.1.2.2 T s.1 (mT.st hs))); (rintro _ _ _ _ ⟨rfl, hE⟩; first | exact hE | exact Fresh.ext hf); rintro W X _ _ hN hs ⟨rfl, hE⟩; rw [hhas]; have hs := hs.ext hE; (try simp only [zcc] at hs); refine JX.at hs ?_)) | (apply aR) | ((first | (apply aI) | (apply JX_f; exact rfl; intro W X hs) | (apply fK; exact rfl; exact rfl; exact gb; intro W X hs)); (first | (apply aV; first | exact bI (i := ((k : Int) - 1).toNat) (hrow.st hs) (hprev (by assumption)) rfl rfl aA | exact bI (i := k) (hrow.st hs) hv rfl rfl aA | exact aU hs rfl rfl aA | exact aJ hs rfl aA) | (apply aQ; exact aH rfl aA) | (apply aF; exact aB rfl aA) | (apply aT; exact aP rfl rfl aA) | (apply dZ; exact dI rfl rfl (by omega) aA) | (apply aK; first | exact aM rfl rfl rfl aA | exact jE rfl rfl aA) | (apply cB; exact cE rfl aA) | (apply cF; first | exact bW rfl gb rfl aA | exact bO rfl gb rfl aA) | (apply aO; exact aN rfl rfl (by omega) (by omega) aA)); first | (exact rfl; exact rfl) | exact rfl) | (apply bB) | (apply aG) | (apply bC) | (apply cI; refine cZ rfl ?_) | (apply bJ) | (apply aL (t := 12); refine JL_o (by apply bE; exact aX hs) rfl rfl ?_; rintro _ _ ⟨b12, rfl, hb12, hs, hE⟩) | (apply bH; refine JL_u (by apply bA; exact aZ hs rfl rfl rfl) rfl ?_; rintro _ _ ⟨hs, hF⟩) | (apply aS; first | refine bF rfl ob ?_ | refine bZ rfl gb ?_) | (apply dB; (refine dE (id := 6) [0, 1, 3, 7, 7, 23, 63, 127, 7, 511, 1023, 2047, 4095, 8191, 8191, 24575, 65535, 131071, 262143, 524287, 1048575, 1048575, 3145727, 8388607, 1048575, 33554431, 67108863] [(0, 0), (1, 0), (2, 0), (3, 0), (4, 0), (5, 0), (6, 0), (7, 0), (8, 0), (9, 1), (10, 0), (11, 0), (12, 0), (13, 0), (14, 0), (15, 0), (16, 1), (17, 0), (18, 0), (19, 0), (20, 0), (21, 0), (22, 0), (24, 0), (23, 1), (25, 0), (26, 0)] [] hs eI (by kernel_rfl) (by kernel_rfl) (by kernel_rfl) (by kernel_rfl) (by kernel_rfl) ?_)) | (refine dA (fun W hs => ?_)) | (refine eM rfl rfl gb rfl ?_) | (refine eO rfl rfl gb rfl ?_) | (refine dQ rfl rfl (fun hq => ?_) (fun hq => ?_); (fail_if_success (exact absurd (by clear hq; first | assumption | omega) (not_not_intro hq))); rotate_left; (fail_if_success (exact absurd (by clear hq; first | assumption | omega) hq)); rotate_left) | (apply dP))
          all_goals refine aY Tryz.func120 rfl (.tmp rfl .nil) ⟨rfl, hs.frm.ext⟩
        | true =>
          obtain ⟨z, hz⟩ : ∃ z, z = outC T s.1 := ⟨_, rfl⟩
          obtain ⟨ZL, hZL⟩ : ∃ z, z = outL T s.1 := ⟨_, rfl⟩
          have hzt : wI false T s.1 = z := by rw [hz]; rfl
          have hzl : wH false T s.1 = ZL := by rw [hZL]; rfl
          have hbk : wA yj false = yj.2.2.1 := rfl
          have hZo : ∀ x ∈ ZL, okId x := by rw [hZL]; unfold outL; split; exact (fun x hx => mO mT x (outT_mem.1 hx).1); exact (fun x hx => by cases hx)
          rw [hzt, hzl, hbk] at hst
          by_cases hz0 : z = 0
          rotate_left
          · rw [eD (k := k) (by omega) (by rw [hst, decide_eq_false hz0]; rfl)]
            repeat' (first | ((apply ax_c; apply dT 172; exact rfl; exact rfl; exact gb; (intro W X hN hs; exact aC lE rfl (dV _ q s (hqo (by assumption)) hso)); (rintro _ _ _ _ ⟨rfl, hE⟩; first | exact hE | exact Fresh.ext hf); rintro W X _ _ hN hs ⟨rfl, hE⟩; rw [← hcc]; have hs := hs.ext hE; (try simp only [zcc] at hs); refine JX.at hs ?_)) | ((apply ax_c; apply dT 105; exact rfl; exact rfl; exact gb; (intro W X hN hs; exact aC eT rfl (is_r _ (some ⟨p, o, none⟩) a2 n c n2 c2 N s.2 (h.st hs) hso.2)); (rintro _ _ _ _ ⟨rfl, hE⟩; first | exact hE | exact Fresh.ext hf); rintro W X _ _ hN hs ⟨rfl, hE⟩; rw [his]; have hs := hs.ext hE; (try simp only [zcc] at hs); refine JX.at hs ?_)) | ((apply ax_c; apply dT 47; exact rfl; exact rfl; exact gb; (intro W X hN hs; exact aC en47 rfl (oT _ r0.2.1.1 r0.2.1.2.1 r0.2.1.2.2 T s.1 (mT.st hs))); (rintro _ _ _ _ ⟨rfl, hE⟩; first | exact hE | exact Fresh.ext hf); rintro W X _ _ hN hs ⟨rfl, hE⟩; rw [hhas]; have hs := hs.ext hE; (try simp only [zcc] at hs); refine JX.at hs ?_)) | ((apply aW 101; refine JL_o (by exact aC tQ rfl (iD _ r0.2.1.1 r0.2.1.2.1 r0.2.1.2.2 T s.1 (mT.st hs))) rfl rfl ?_; rintro _ _ ⟨aw, cw, rfl, hf⟩; rw [← hZL] at hf; rw [← hz, ← hZL]; have hs := hs.fresh hf; (try simp only [zcc] at hs))) | (apply aR) | ((first | (apply aI) | (apply JX_f; exact rfl; intro W X hs) | (apply fK; exact rfl; exact rfl; exact gb; intro W X hs)); (first | (apply aV; first | exact bI (i := ((k : Int) - 1).toNat) (hrow.st hs) (hprev (by assumption)) rfl rfl aA | exact bI (i := k) (hrow.st hs) hv rfl rfl aA | exact bI (i := (s.2 - 1).toNat) (hr.st hs) hrj rfl rfl aA | exact aU hs rfl rfl aA | exact aJ hs rfl aA) | (apply aQ; exact aH rfl aA) | (apply aF; exact aB rfl aA) | (apply aT; exact aP rfl rfl aA) | (apply dZ; exact dI rfl rfl (by omega) aA) | (apply aK; first | exact aM rfl rfl rfl aA | exact jE rfl rfl aA) | (apply cB; exact cE rfl aA) | (apply cF; first | exact bW rfl gb rfl aA | exact bO rfl gb rfl aA) | (apply bS; exact bM rfl rfl aA) | (apply aO; exact aN rfl rfl (by omega) (by omega) aA)); first | (exact rfl; exact rfl) | exact rfl) | (apply bB) | (apply aG) | (apply bC) | (apply cI; refine cZ rfl ?_) | (apply bJ) | (apply aL (t := 12); refine JL_o (by apply bE; exact aX hs) rfl rfl ?_; rintro _ _ ⟨b12, rfl, hb12, hs, hE⟩) | (apply aL (t := 13); refine JL_o (by apply bE; exact aX hs) rfl rfl ?_; rintro _ _ ⟨b13, rfl, hb13, hs, hE⟩) | (apply bH; refine JL_u (by apply bA; exact aZ hs rfl rfl rfl) rfl ?_; rintro _ _ ⟨hs, hF⟩) | (apply cW; (refine fM rfl gb rfl ?_)) | (apply aS; first | refine bF rfl ob ?_ | refine bZ rfl gb ?_ | refine bV rfl gb ?_) | (apply dB; (refine dE (id := 6) [0, 1, 3, 7, 7, 23, 63, 127, 7, 511, 1023, 2047, 4095, 8191, 8191, 24575, 65535, 131071, 262143, 524287, 1048575, 1048575, 3145727, 8388607, 1048575, 33554431, 67108863] [(0, 0), (1, 0), (2, 0), (3, 0), (4, 0), (5, 0), (6, 0), (7, 0), (8, 0), (9, 1), (10, 0), (11, 0), (12, 0), (13, 0), (14, 0), (15, 0), (16, 1), (17, 0), (18, 0), (19, 0), (20, 0), (21, 0), (22, 0), (24, 0), (23, 1), (25, 0), (26, 0)] [] hs eI (by kernel_rfl) (by kernel_rfl) (by kernel_rfl) (by kernel_rfl) (by kernel_rfl) ?_)) | (refine dA (fun W hs => ?_)) | (refine eM rfl rfl gb rfl ?_) | (refine eO rfl rfl gb rfl ?_) | (refine dQ rfl rfl (fun hq => ?_) (fun hq => ?_); (fail_if_success (exact absurd (by clear hq; first | assumption | omega) (not_not_intro hq))); rotate_left; (fail_if_success (exact absurd (by clear hq; first | assumption | omega) hq)); rotate_left) | (apply dP))
            all_goals refine aY Tryz.func120 rfl (.tmp rfl .nil) ⟨rfl, hs.frm.ext⟩
          rw [decide_eq_true hz0] at hst
          have hz1 : ¬ z ≠ 0 := fun e => e hz0
          by_cases hty : yj.2.1 = ZL
          rotate_left
          · have hte : decide (yj.2.1 = ZL) = false := decide_eq_false hty
            rw [eD (k := k) (by omega) (by rw [hst, hte]; rfl)]
            repeat' (first | ((apply ax_c; apply dT 172; exact rfl; exact rfl; exact gb; (intro W X hN hs; exact aC lE rfl (dV _ q s (hqo (by assumption)) hso)); (rintro _ _ _ _ ⟨rfl, hE⟩; first | exact hE | exact Fresh.ext hf); rintro W X _ _ hN hs ⟨rfl, hE⟩; rw [← hcc]; have hs := hs.ext hE; (try simp only [zcc] at hs); refine JX.at hs ?_)) | ((apply ax_c; apply dT 105; exact rfl; exact rfl; exact gb; (intro W X hN hs; exact aC eT rfl (is_r _ (some ⟨p, o, none⟩) a2 n c n2 c2 N s.2 (h.st hs) hso.2)); (rintro _ _ _ _ ⟨rfl, hE⟩; first | exact hE | exact Fresh.ext hf); rintro W X _ _ hN hs ⟨rfl, hE⟩; rw [his]; have hs := hs.ext hE; (try simp only [zcc] at hs); refine JX.at hs ?_)) | ((apply ax_c; apply dT 47; exact rfl; exact rfl; exact gb; (intro W X hN hs; exact aC en47 rfl (oT _ r0.2.1.1 r0.2.1.2.1 r0.2.1.2.2 T s.1 (mT.st hs))); (rintro _ _ _ _ ⟨rfl, hE⟩; first | exact hE | exact Fresh.ext hf); rintro W X _ _ hN hs ⟨rfl, hE⟩; rw [hhas]; have hs := hs.ext hE; (try simp only [zcc] at hs); refine JX.at hs ?_)) | ((apply aW 101; refine JL_o (by exact aC tQ rfl (iD _ r0.2.1.1 r0.2.1.2.1 r0.2.1.2.2 T s.1 (mT.st hs))) rfl rfl ?_; rintro _ _ ⟨aw, cw, rfl, hf⟩; rw [← hZL] at hf; rw [← hz, ← hZL]; have hs := hs.fresh hf; (try simp only [zcc] at hs))) | ((apply cN 43; refine cX rfl gb (by exact aC en43 rfl (eJ _ rj.2.1.1 aw rj.2.1.2.1 rj.2.1.2.2 ZL.length cw yj.2.1 ZL (mj1.st hs) (slU hs zmm hZo))) rfl rfl ?_; rintro _ _ ⟨rfl, hE⟩; rw [hte]; have hs := hs.ext hE; (try simp only [zcc] at hs))) | (apply aR) | ((first | (apply aI) | (apply bX; exact rfl; exact gb) | (apply JX_f; exact rfl; intro W X hs) | (apply fK; exact rfl; exact rfl; exact gb; intro W X hs)); (first | (apply aV; first | exact bI (i := ((k : Int) - 1).toNat) (hrow.st hs) (hprev (by assumption)) rfl rfl aA | exact bI (i := k) (hrow.st hs) hv rfl rfl aA | exact bI (i := (s.2 - 1).toNat) (hr.st hs) hrj rfl rfl aA | exact aU hs rfl rfl aA | exact aJ hs rfl aA) | (apply aQ; exact aH rfl aA) | (apply aF; exact aB rfl aA) | (apply aT; exact aP rfl rfl aA) | (apply dZ; exact dI rfl rfl (by omega) aA) | (apply aK; first | exact aM rfl rfl rfl aA | exact jE rfl rfl aA) | (apply cB; exact cE rfl aA) | (apply cF; first | exact bW rfl gb rfl aA | exact bO rfl gb rfl aA) | (apply bS; exact bM rfl rfl aA) | (apply aO; exact aN rfl rfl (by omega) (by omega) aA)); first | (exact rfl; exact rfl) | exact rfl) | (apply bB) | (apply aG) | (apply bC) | (apply cI; refine cZ rfl ?_) | (apply bJ) | (apply aL (t := 12); refine JL_o (by apply bE; exact aX hs) rfl rfl ?_; rintro _ _ ⟨b12, rfl, hb12, hs, hE⟩) | (apply aL (t := 13); refine JL_o (by apply bE; exact aX hs) rfl rfl ?_; rintro _ _ ⟨b13, rfl, hb13, hs, hE⟩) | (apply bH; refine JL_u (by apply bA; exact aZ hs rfl rfl rfl) rfl ?_; rintro _ _ ⟨hs, hF⟩) | (apply cW; (refine fM rfl gb rfl ?_)) | (apply aS; first | refine bF rfl ob ?_ | refine bZ rfl gb ?_ | refine bV rfl gb ?_) | (apply dB; (refine dE (id := 6) [0, 1, 3, 7, 7, 23, 63, 127, 7, 511, 1023, 2047, 4095, 8191, 8191, 24575, 65535, 131071, 262143, 524287, 1048575, 1048575, 3145727, 8388607, 1048575, 33554431, 67108863] [(0, 0), (1, 0), (2, 0), (3, 0), (4, 0), (5, 0), (6, 0), (7, 0), (8, 0), (9, 1), (10, 0), (11, 0), (12, 0), (13, 0), (14, 0), (15, 0), (16, 1), (17, 0), (18, 0), (19, 0), (20, 0), (21, 0), (22, 0), (24, 0), (23, 1), (25, 0), (26, 0)] [] hs eI (by kernel_rfl) (by kernel_rfl) (by kernel_rfl) (by kernel_rfl) (by kernel_rfl) ?_)) | (refine dA (fun W hs => ?_)) | (refine eM rfl rfl gb rfl ?_) | (refine eO rfl rfl gb rfl ?_) | (refine dQ rfl rfl (fun hq => ?_) (fun hq => ?_); (fail_if_success (exact absurd (by clear hq; first | assumption | omega) (not_not_intro hq))); rotate_left; (fail_if_success (exact absurd (by clear hq; first | assumption | omega) hq)); rotate_left) | (apply dP))
            all_goals refine aY Tryz.func120 rfl (.tmp rfl .nil) ⟨rfl, hs.frm.ext⟩
          have hte : decide (yj.2.1 = ZL) = true := decide_eq_true hty
          rw [hte] at hst
          by_cases hin : (s.1, (k0 : Int) + 1) ∈ yj.2.2.1
          rotate_left
          · have hke : decide ((s.1, (k0 : Int) + 1) ∈ yj.2.2.1) = false := decide_eq_false hin
            rw [eD (k := k) (by omega) (by rw [hst, hke]; rfl)]
            repeat' (first | ((apply ax_c; apply dT 172; exact rfl; exact rfl; exact gb; (intro W X hN hs; exact aC lE rfl (dV _ q s (hqo (by assumption)) hso)); (rintro _ _ _ _ ⟨rfl, hE⟩; first | exact hE | exact Fresh.ext hf); rintro W X _ _ hN hs ⟨rfl, hE⟩; rw [← hcc]; have hs := hs.ext hE; (try simp only [zcc] at hs); refine JX.at hs ?_)) | ((apply ax_c; apply dT 105; exact rfl; exact rfl; exact gb; (intro W X hN hs; exact aC eT rfl (is_r _ (some ⟨p, o, none⟩) a2 n c n2 c2 N s.2 (h.st hs) hso.2)); (rintro _ _ _ _ ⟨rfl, hE⟩; first | exact hE | exact Fresh.ext hf); rintro W X _ _ hN hs ⟨rfl, hE⟩; rw [his]; have hs := hs.ext hE; (try simp only [zcc] at hs); refine JX.at hs ?_)) | ((apply ax_c; apply dT 47; exact rfl; exact rfl; exact gb; (intro W X hN hs; exact aC en47 rfl (oT _ r0.2.1.1 r0.2.1.2.1 r0.2.1.2.2 T s.1 (mT.st hs))); (rintro _ _ _ _ ⟨rfl, hE⟩; first | exact hE | exact Fresh.ext hf); rintro W X _ _ hN hs ⟨rfl, hE⟩; rw [hhas]; have hs := hs.ext hE; (try simp only [zcc] at hs); refine JX.at hs ?_)) | ((apply aW 101; refine JL_o (by exact aC tQ rfl (iD _ r0.2.1.1 r0.2.1.2.1 r0.2.1.2.2 T s.1 (mT.st hs))) rfl rfl ?_; rintro _ _ ⟨aw, cw, rfl, hf⟩; rw [← hZL] at hf; rw [← hz, ← hZL]; have hs := hs.fresh hf; (try simp only [zcc] at hs))) | ((apply cN 43; refine cX rfl gb (by exact aC en43 rfl (eJ _ rj.2.1.1 aw rj.2.1.2.1 rj.2.1.2.2 ZL.length cw yj.2.1 ZL (mj1.st hs) (slU hs zmm hZo))) rfl rfl ?_; rintro _ _ ⟨rfl, hE⟩; rw [hte]; have hs := hs.ext hE; (try simp only [zcc] at hs))) | ((apply cN 184; refine cX rfl gb (by exact aC en184 rfl (qT _ rj.2.2.1.1 rj.2.2.1.2.1 rj.2.2.1.2.2 yj.2.2.1 (s.1, (k0 : Int) + 1) (mj2.st hs))) rfl rfl ?_; rintro _ _ ⟨rfl, hE⟩; rw [hke]; have hs := hs.ext hE; (try simp only [zcc] at hs))) | (apply aR) | ((first | (apply aI) | (apply bX; exact rfl; exact gb) | (apply JX_f; exact rfl; intro W X hs) | (apply fK; exact rfl; exact rfl; exact gb; intro W X hs)); (first | (apply aV; first | exact bI (i := ((k : Int) - 1).toNat) (hrow.st hs) (hprev (by assumption)) rfl rfl aA | exact bI (i := k) (hrow.st hs) hv rfl rfl aA | exact bI (i := (s.2 - 1).toNat) (hr.st hs) hrj rfl rfl aA | exact aU hs rfl rfl aA | exact aJ hs rfl aA) | (apply aQ; exact aH rfl aA) | (apply aF; exact aB rfl aA) | (apply aT; exact aP rfl rfl aA) | (apply dZ; exact dI rfl rfl (by omega) aA) | (apply aK; first | exact aM rfl rfl rfl aA | exact jE rfl rfl aA) | (apply cB; exact cE rfl aA) | (apply cF; first | exact bW rfl gb rfl aA | exact bO rfl gb rfl aA) | (apply bS; exact bM rfl rfl aA) | (apply aO; exact aN rfl rfl (by omega) (by omega) aA) | (apply cY; exact cL rfl (by (simp only [bld, cQ, bQ, Value.cells, List.take_succ_cons, List.take_zero, List.drop_succ_cons, List.drop_zero, List.cons_append, List.nil_append, List.length_cons, List.length_nil, List.getElem?_cons_zero, List.getElem?_cons_succ, Option.map_some, List.append_nil, Nat.reduceAdd, Nat.reduceMul, Nat.zero_add, Nat.reduceLeDiff, and_self, if_true, List.toList_toArray, Nat.le_refl, Nat.zero_mul, Nat.one_mul]; first | done | rfl)) aA)); first | (exact rfl; exact rfl) | exact rfl) | (apply bB) | (apply aG) | (apply bC) | (apply cI; refine cZ rfl ?_) | (apply bJ) | (apply aL (t := 12); refine JL_o (by apply bE; exact aX hs) rfl rfl ?_; rintro _ _ ⟨b12, rfl, hb12, hs, hE⟩) | (apply aL (t := 13); refine JL_o (by apply bE; exact aX hs) rfl rfl ?_; rintro _ _ ⟨b13, rfl, hb13, hs, hE⟩) | (apply bH; refine JL_u (by apply bA; exact aZ hs rfl rfl rfl) rfl ?_; rintro _ _ ⟨hs, hF⟩) | (apply aS; first | refine bF rfl ob ?_ | refine bZ rfl gb ?_ | refine bV rfl gb ?_) | (apply dB; (refine dE (id := 6) [0, 1, 3, 7, 7, 23, 63, 127, 7, 511, 1023, 2047, 4095, 8191, 8191, 24575, 65535, 131071, 262143, 524287, 1048575, 1048575, 3145727, 8388607, 1048575, 33554431, 67108863] [(0, 0), (1, 0), (2, 0), (3, 0), (4, 0), (5, 0), (6, 0), (7, 0), (8, 0), (9, 1), (10, 0), (11, 0), (12, 0), (13, 0), (14, 0), (15, 0), (16, 1), (17, 0), (18, 0), (19, 0), (20, 0), (21, 0), (22, 0), (24, 0), (23, 1), (25, 0), (26, 0)] [] hs eI (by kernel_rfl) (by kernel_rfl) (by kernel_rfl) (by kernel_rfl) (by kernel_rfl) ?_)) | (refine dA (fun W hs => ?_)) | (refine eM rfl rfl gb rfl ?_) | (refine eO rfl rfl gb rfl ?_) | (refine dQ rfl rfl (fun hq => ?_) (fun hq => ?_); (fail_if_success (exact absurd (by clear hq; first | assumption | omega) (not_not_intro hq))); rotate_left; (fail_if_success (exact absurd (by clear hq; first | assumption | omega) hq)); rotate_left) | (apply dP))
            all_goals refine aY Tryz.func120 rfl (.tmp rfl .nil) ⟨rfl, hs.frm.ext⟩
          have hke : decide ((s.1, (k0 : Int) + 1) ∈ yj.2.2.1) = true := decide_eq_true hin
          rw [hke] at hst
          repeat' (first | ((apply ax_c; apply dT 172; exact rfl; exact rfl; exact gb; (intro W X hN hs; exact aC lE rfl (dV _ q s (hqo (by assumption)) hso)); (rintro _ _ _ _ ⟨rfl, hE⟩; first | exact hE | exact Fresh.ext hf); rintro W X _ _ hN hs ⟨rfl, hE⟩; rw [← hcc]; have hs := hs.ext hE; (try simp only [zcc] at hs); refine JX.at hs ?_)) | ((apply ax_c; apply dT 105; exact rfl; exact rfl; exact gb; (intro W X hN hs; exact aC eT rfl (is_r _ (some ⟨p, o, none⟩) a2 n c n2 c2 N s.2 (h.st hs) hso.2)); (rintro _ _ _ _ ⟨rfl, hE⟩; first | exact hE | exact Fresh.ext hf); rintro W X _ _ hN hs ⟨rfl, hE⟩; rw [his]; have hs := hs.ext hE; (try simp only [zcc] at hs); refine JX.at hs ?_)) | ((apply ax_c; apply dT 47; exact rfl; exact rfl; exact gb; (intro W X hN hs; exact aC en47 rfl (oT _ r0.2.1.1 r0.2.1.2.1 r0.2.1.2.2 T s.1 (mT.st hs))); (rintro _ _ _ _ ⟨rfl, hE⟩; first | exact hE | exact Fresh.ext hf); rintro W X _ _ hN hs ⟨rfl, hE⟩; rw [hhas]; have hs := hs.ext hE; (try simp only [zcc] at hs); refine JX.at hs ?_)) | ((apply aW 101; refine JL_o (by exact aC tQ rfl (iD _ r0.2.1.1 r0.2.1.2.1 r0.2.1.2.2 T s.1 (mT.st hs))) rfl rfl ?_; rintro _ _ ⟨aw, cw, rfl, hf⟩; rw [← hZL] at hf; rw [← hz, ← hZL]; have hs := hs.fresh hf; (try simp only [zcc] at hs))) | ((apply cN 43; refine cX rfl gb (by exact aC en43 rfl (eJ _ rj.2.1.1 aw rj.2.1.2.1 rj.2.1.2.2 ZL.length cw yj.2.1 ZL (mj1.st hs) (slU hs zmm hZo))) rfl rfl ?_; rintro _ _ ⟨rfl, hE⟩; rw [hte]; have hs := hs.ext hE; (try simp only [zcc] at hs))) | ((apply cN 184; refine cX rfl gb (by exact aC en184 rfl (qT _ rj.2.2.1.1 rj.2.2.1.2.1 rj.2.2.1.2.2 yj.2.2.1 (s.1, (k0 : Int) + 1) (mj2.st hs))) rfl rfl ?_; rintro _ _ ⟨rfl, hE⟩; rw [hke]; have hs := hs.ext hE; (try simp only [zcc] at hs))) | (apply aR) | ((first | (apply aI) | (apply bX; exact rfl; exact gb) | (apply JX_f; exact rfl; intro W X hs) | (apply fK; exact rfl; exact rfl; exact gb; intro W X hs)); (first | (apply aV; first | exact bI (i := ((k : Int) - 1).toNat) (hrow.st hs) (hprev (by assumption)) rfl rfl aA | exact bI (i := k) (hrow.st hs) hv rfl rfl aA | exact bI (i := (s.2 - 1).toNat) (hr.st hs) hrj rfl rfl aA | exact aU hs rfl rfl aA | exact aJ hs rfl aA) | (apply aQ; exact aH rfl aA) | (apply aF; exact aB rfl aA) | (apply aT; exact aP rfl rfl aA) | (apply cJ; exact bR rfl rfl (by omega) (by first | (simp only [Int.reduceAdd]; exact rfl) | exact rfl) aA) | (apply dZ; exact dI rfl rfl (by omega) aA) | (apply aK; first | exact aM rfl rfl rfl aA | exact jE rfl rfl aA) | (apply cB; exact cE rfl aA) | (apply cF; first | exact bW rfl gb rfl aA | exact bO rfl gb rfl aA) | (apply bS; exact bM rfl rfl aA) | (apply aO; exact aN rfl rfl (by omega) (by omega) aA) | (apply cY; exact cL rfl (by (simp only [bld, cQ, bQ, Value.cells, List.take_succ_cons, List.take_zero, List.drop_succ_cons, List.drop_zero, List.cons_append, List.nil_append, List.length_cons, List.length_nil, List.getElem?_cons_zero, List.getElem?_cons_succ, Option.map_some, List.append_nil, Nat.reduceAdd, Nat.reduceMul, Nat.zero_add, Nat.reduceLeDiff, and_self, if_true, List.toList_toArray, Nat.le_refl, Nat.zero_mul, Nat.one_mul]; first | done | rfl)) aA)); first | (exact rfl; exact rfl) | exact rfl) | (apply bB) | (apply aG) | (apply bC) | (apply bN) | (apply bJ) | (apply aL (t := 12); refine JL_o (by apply bE; exact aX hs) rfl rfl ?_; rintro _ _ ⟨b12, rfl, hb12, hs, hE⟩) | (apply aL (t := 13); refine JL_o (by apply bE; exact aX hs) rfl rfl ?_; rintro _ _ ⟨b13, rfl, hb13, hs, hE⟩) | (apply bH; refine JL_u (by apply bA; exact aZ hs rfl rfl rfl) rfl ?_; rintro _ _ ⟨hs, hF⟩) | (apply aS; first | refine bF rfl ob ?_ | refine bV rfl gb ?_) | (apply dB; (refine dE (id := 6) [0, 1, 3, 7, 7, 23, 63, 127, 7, 511, 1023, 2047, 4095, 8191, 8191, 24575, 65535, 131071, 262143, 524287, 1048575, 1048575, 3145727, 8388607, 1048575, 33554431, 67108863] [(0, 0), (1, 0), (2, 0), (3, 0), (4, 0), (5, 0), (6, 0), (7, 0), (8, 0), (9, 1), (10, 0), (11, 0), (12, 0), (13, 0), (14, 0), (15, 0), (16, 1), (17, 0), (18, 0), (19, 0), (20, 0), (21, 0), (22, 0), (24, 0), (23, 1), (25, 0), (26, 0)] [] hs eI (by kernel_rfl) (by kernel_rfl) (by kernel_rfl) (by kernel_rfl) (by kernel_rfl) ?_)) | (refine dA (fun W hs => ?_)) | (refine eM rfl rfl gb rfl ?_) | (refine eO rfl rfl gb rfl ?_) | (refine dQ rfl rfl (fun hq => ?_) (fun hq => ?_); (fail_if_success (exact absurd (by clear hq; first | assumption | omega) (not_not_intro hq))); rotate_left; (fail_if_success (exact absurd (by clear hq; first | assumption | omega) hq)); rotate_left) | (apply dP))
          all_goals refine ih (k + 1) _ _ ⟨hs.sel [3] (by decide), hlt, fun j2 hj2 => ?_⟩ (by omega) zss
          all_goals
            by_cases e : j2 = k
            · rw [e, hst]; rfl
            · exact hall j2 (by omega)
  · have hf : gH N ((k0 : Int) + 1) row plus = true := tA (fun j hj => hall j (by omega))
    rw [hf]
    repeat' (first | (apply aR) | ((apply aI); (first | (apply aQ; exact aH rfl aA) | (apply aF; exact aB rfl aA) | (apply aK; exact aM rfl rfl rfl aA)); first | (exact rfl; exact rfl) | exact rfl) | (apply bB) | (apply aG) | (apply cI; refine cZ rfl ?_) | (apply aS; refine bK rfl ob ?_))
    refine aY Tryz.func120 rfl (.tmp rfl .nil) ⟨rfl, hs.frm.ext⟩
end Go.Eng
end
section
namespace Go.Eng
open Go.Proofs
set_option linter.unusedSimpArgs false
set_option linter.unusedVariables false
def mX (N : List NM) (E : List Ent) (i : Nat) : Bool :=
  if (N.getD i n0).1 then dR (N.getD i n0).2.1 && (decide (jI E (N.getD i n0).2.1 = ((i : Int) + 1, true)) && (gH N ((i : Int) + 1) (N.getD i n0).2.2.1 true && gH N ((i : Int) + 1) (N.getD i n0).2.2.2 false))
  else decide ((N.getD i n0).2.1.length + (N.getD i n0).2.2.1.length + (N.getD i n0).2.2.2.length = 0)
def fR (N : List NM) : Nat := (N.filter (fun x => x.1)).length
def tG (N : List NM) (E : List Ent) : Bool := decide (N.length ≠ 0) && (isM N N.length && (isM N 1 && (decide ((dS N 1).2.1.length = 0) && dD E)))
def eG (N : List NM) (E : List Ent) : Bool := tG N E && ((List.range N.length).all (mX N E) && decide (fR N = (allF E).length))
def errG (N : List NM) (E : List Ent) : Int := if eG N E then 0 else 220
theorem jY {N : List NM} {E : List Ent} (h : eG N E = true) : errG N E = 0 := if_pos h
theorem gO {N : List NM} {E : List Ent} (h : eG N E = false) : errG N E = 220 := if_neg (by rw [h]; decide)
theorem kO {N : List NM} {E : List Ent} (h : tG N E = false) : errG N E = 220 := gO (by unfold eG; rw [h]; rfl)
theorem jJ {N : List NM} {E : List Ent} {k : Nat} (hk : k < N.length) (h : mX N E k = false) : errG N E = 220 := gO (by
  unfold eG
  rw [show (List.range N.length).all (mX N E) = false from List.all_eq_false.2 ⟨k, List.mem_range.2 hk, by rw [h]; decide⟩]
  simp)
abbrev szN (N : List NM) : Prop := ∀ x ∈ N, x.2.1.length ≤ 1000000 ∧ x.2.2.1.length ≤ 1000000 ∧ x.2.2.2.length ≤ 1000000
attribute [local irreducible] Hold J JL JD JX JXat OpR OpG Ret RetV Is Blk Row
set_option maxRecDepth 100000
set_option maxHeartbeats 2000000
theorem dM (w : World) (a a2 : Option Addr) (n c n2 c2 : Nat) (N : List NM) (E : List Ent) (h : Sl jD All w a n c N) (hE0 : Sl dEnt All w a2 n2 c2 E) (hn2 : n2 ≤ 1048576) (hz : szN N) :
    Ret Tryz.prog 46 #[.agg #[.slice a n c, .slice a2 n2 c2]] w fun v w' => v = .int .i64 (errG N E) ∧ Ext w w' := by
  refine cG (l := [_]) Tryz.func46 rfl Tryz.ntmps46 (by simp) ?_
  have hs := St.init w
  have hl := h.len
  have hNo := wR h
  obtain ⟨rs, hr, hm⟩ := Sl.raw (D := nN) h
  have hmx : n ≤ 9223372036854775807 := by have h3 := h.le; have h4 := h.cap; unfold maxLen at h4; omega
  have hni : inK .i64 (n : Int) := by unfold inK; simp only [IntKind.min, IntKind.max, IntKind.bits, IntKind.signed]; omega
  have h1i : inK .i64 (1 : Int) := by unfold inK; simp only [IntKind.min, IntKind.max, IntKind.bits, IntKind.signed]; omega
  obtain ⟨ib, his⟩ : ∃ ib, isM N n = ib := ⟨_, rfl⟩
  obtain ⟨i1, his1⟩ : ∃ ib, isM N 1 = ib := ⟨_, rfl⟩
  have hhd : tG N E = (decide (n ≠ 0) && (ib && (i1 && (decide ((dS N 1).2.1.length = 0) && dD E)))) := by unfold tG; rw [hl, his, his1]
  by_cases hn0 : n = 0
  · have hn0' : (n : Int) = 0 := by omega
    rw [kO (by rw [hhd, decide_eq_false (by omega)]; rfl)]
    repeat' (first | (apply aR) | ((apply aI); (first | (apply aV; first | exact aU hs rfl rfl aA | exact aJ hs rfl aA) | (apply aQ; exact aH rfl aA) | (apply aF; exact aB rfl aA) | (apply aT; exact aP rfl rfl aA) | (apply aK; exact aM rfl rfl rfl aA) | (apply cF; exact bW rfl gb rfl aA) | (apply bL; exact bY rfl aA)); first | (exact rfl; exact rfl) | exact rfl) | (apply bB) | (apply aG) | (apply aL (t := 1); refine JL_o (by apply cD; exact bG hs rfl) rfl rfl ?_; rintro _ _ ⟨b1, rfl, hb1, hs, hE⟩) | (apply cW; (refine fM rfl gb rfl ?_)) | (apply aS; refine bZ rfl gb ?_))
    refine aY Tryz.func46 rfl (.tmp rfl .nil) ⟨rfl, hs.frm.ext⟩
  have hn0' : ¬ (n : Int) = 0 := by omega
  rw [decide_eq_true hn0, Bool.true_and] at hhd
  obtain ⟨p, o, rfl⟩ := hr.sl.addr (by omega)
  cases ib with
  | false =>
    rw [kO (by rw [hhd]; rfl)]
    repeat' (first | ((apply cN 105; refine cX rfl gb (by exact aC eT rfl (is_r _ (some ⟨p, o, none⟩) a2 n c n2 c2 N n (h.st hs) hni)) rfl rfl ?_; rintro _ _ ⟨rfl, hE⟩; rw [his]; have hs := hs.ext hE; (try simp only [zcc] at hs))) | (apply aR) | ((first | (apply aI) | (apply bX; exact rfl; exact gb)); (first | (apply aV; first | exact aU hs rfl rfl aA | exact aJ hs rfl aA) | (apply aQ; exact aH rfl aA) | (apply aF; exact aB rfl aA) | (apply aT; exact aP rfl rfl aA) | (apply aK; exact aM rfl rfl rfl aA) | (apply cB; exact cE rfl aA) | (apply cF; first | exact bW rfl gb rfl aA | exact bO rfl gb rfl aA) | (apply bL; exact bY rfl aA)); first | (exact rfl; exact rfl) | exact rfl) | (apply bB) | (apply aG) | (apply aL (t := 1); refine JL_o (by apply cD; exact bG hs rfl) rfl rfl ?_; rintro _ _ ⟨b1, rfl, hb1, hs, hE⟩) | (apply cW; (refine fM rfl gb rfl ?_)) | (apply aS; refine bZ rfl gb ?_))
    refine aY Tryz.func46 rfl (.tmp rfl .nil) ⟨rfl, hs.frm.ext⟩
  | true =>
  cases i1 with
  | false =>
    rw [kO (by rw [hhd]; rfl)]
    repeat' (first | ((apply cN 105; refine cX rfl gb (by exact aC eT rfl (is_r _ (some ⟨p, o, none⟩) a2 n c n2 c2 N n (h.st hs) hni)) rfl rfl ?_; rintro _ _ ⟨rfl, hE⟩; rw [his]; have hs := hs.ext hE; (try simp only [zcc] at hs))) | ((apply cN 105; refine cX rfl gb (by exact aC eT rfl (is_r _ (some ⟨p, o, none⟩) a2 n c n2 c2 N 1 (h.st hs) h1i)) rfl rfl ?_; rintro _ _ ⟨rfl, hE⟩; rw [his1]; have hs := hs.ext hE; (try simp only [zcc] at hs))) | (apply aR) | ((first | (apply aI) | (apply bX; exact rfl; exact gb)); (first | (apply aV; first | exact aU hs rfl rfl aA | exact aJ hs rfl aA) | (apply aQ; exact aH rfl aA) | (apply aF; exact aB rfl aA) | (apply aT; exact aP rfl rfl aA) | (apply aK; exact aM rfl rfl rfl aA) | (apply cB; exact cE rfl aA) | (apply cF; first | exact bW rfl gb rfl aA | exact bO rfl gb rfl aA) | (apply bL; exact bY rfl aA)); first | (exact rfl; exact rfl) | exact rfl) | (apply bB) | (apply aG) | (apply aL (t := 1); refine JL_o (by apply cD; exact bG hs rfl) rfl rfl ?_; rintro _ _ ⟨b1, rfl, hb1, hs, hE⟩) | (apply cW; (refine fM rfl gb rfl ?_)) | (apply aS; refine bZ rfl gb ?_))
    refine aY Tryz.func46 rfl (.tmp rfl .nil) ⟨rfl, hs.frm.ext⟩
  | true =>
  have hx0 : N[0]? = some (N[0]'(by omega)) := List.getElem?_eq_getElem (by omega)
  obtain ⟨x0, hxd0⟩ : ∃ x, x = N[0]'(by omega) := ⟨_, rfl⟩
  rw [← hxd0] at hx0
  obtain ⟨r0, hr0, g1, g2, g3, g4⟩ := hm.get hx0
  have m01 : Sl dId All w r0.2.1.1 r0.2.1.2.1 r0.2.1.2.2 x0.2.1 := g2
  have hn1 : dS N 1 = x0 := dK (k := 0) hx0
  have hln0 := m01.len
  rw [hn1] at hhd
  by_cases ht0 : x0.2.1.length = 0
  rotate_left
  · rw [kO (by rw [hhd, decide_eq_false ht0]; rfl)]
    have ht0' : (r0.2.1.2.1 : Int) > 0 := by omega
    repeat' (first | ((apply cN 105; refine cX rfl gb (by exact aC eT rfl (is_r _ (some ⟨p, o, none⟩) a2 n c n2 c2 N n (h.st hs) hni)) rfl rfl ?_; rintro _ _ ⟨rfl, hE⟩; rw [his]; have hs := hs.ext hE; (try simp only [zcc] at hs))) | ((apply cN 105; refine cX rfl gb (by exact aC eT rfl (is_r _ (some ⟨p, o, none⟩) a2 n c n2 c2 N 1 (h.st hs) h1i)) rfl rfl ?_; rintro _ _ ⟨rfl, hE⟩; rw [his1]; have hs := hs.ext hE; (try simp only [zcc] at hs))) | (apply aR) | ((first | (apply aI) | (apply bX; exact rfl; exact gb)); (first | (apply aV; first | exact aU hs rfl rfl aA | exact aJ hs rfl aA | exact bU (i := 0) (j := 1) (hr.st hs) hr0 rfl rfl rfl aA) | (apply aQ; exact aH rfl aA) | (apply aF; exact aB rfl aA) | (apply aT; first | exact aP rfl rfl aA | exact bP rfl rfl aA) | (apply aK; exact aM rfl rfl rfl aA) | (apply cB; exact cE rfl aA) | (apply cF; first | exact bW rfl gb rfl aA | exact bO rfl gb rfl aA) | (apply bL; exact bY rfl aA) | (apply aO; exact aN rfl rfl (by omega) (by omega) aA)); first | (exact rfl; exact rfl) | exact rfl) | (apply bB) | (apply aG) | (apply aL (t := 1); refine JL_o (by apply cD; exact bG hs rfl) rfl rfl ?_; rintro _ _ ⟨b1, rfl, hb1, hs, hE⟩) | (apply cW; (refine fM rfl gb rfl ?_)) | (apply aS; refine bZ rfl gb ?_))
    refine aY Tryz.func46 rfl (.tmp rfl .nil) ⟨rfl, hs.frm.ext⟩
  have ht0' : ¬ (r0.2.1.2.1 : Int) > 0 := by omega
  rw [decide_eq_true ht0] at hhd
  cases hce : dD E with
  | false =>
    rw [kO (by rw [hhd, hce]; rfl)]
    repeat' (first | ((apply cN 105; refine cX rfl gb (by exact aC eT rfl (is_r _ (some ⟨p, o, none⟩) a2 n c n2 c2 N n (h.st hs) hni)) rfl rfl ?_; rintro _ _ ⟨rfl, hE⟩; rw [his]; have hs := hs.ext hE; (try simp only [zcc] at hs))) | ((apply cN 105; refine cX rfl gb (by exact aC eT rfl (is_r _ (some ⟨p, o, none⟩) a2 n c n2 c2 N 1 (h.st hs) h1i)) rfl rfl ?_; rintro _ _ ⟨rfl, hE⟩; rw [his1]; have hs := hs.ext hE; (try simp only [zcc] at hs))) | ((apply cN 118; refine cX rfl gb (by exact aC lF rfl (eV _ a2 n2 c2 E (hE0.st hs) hn2)) rfl rfl ?_; rintro _ _ ⟨rfl, hE⟩; rw [hce]; have hs := hs.ext hE; (try simp only [zcc] at hs))) | (apply aR) | ((first | (apply aI) | (apply bX; exact rfl; exact gb)); (first | (apply aV; first | exact aU hs rfl rfl aA | exact aJ hs rfl aA | exact bU (i := 0) (j := 1) (hr.st hs) hr0 rfl rfl rfl aA) | (apply aQ; exact aH rfl aA) | (apply aF; exact aB rfl aA) | (apply aT; first | exact aP rfl rfl aA | exact bP rfl rfl aA) | (apply aK; exact aM rfl rfl rfl aA) | (apply cB; exact cE rfl aA) | (apply cF; exact bO rfl gb rfl aA) | (apply bL; exact bY rfl aA) | (apply aO; exact aN rfl rfl (by omega) (by omega) aA)); first | (exact rfl; exact rfl) | exact rfl) | (apply bB) | (apply aG) | (apply aL (t := 1); refine JL_o (by apply cD; exact bG hs rfl) rfl rfl ?_; rintro _ _ ⟨b1, rfl, hb1, hs, hE⟩) | (apply aS; refine bZ rfl gb ?_))
    refine aY Tryz.func46 rfl (.tmp rfl .nil) ⟨rfl, hs.frm.ext⟩
  | true =>
  rw [hce] at hhd
  have hhd : tG N E = true := hhd
  repeat' (first | ((apply cN 105; refine cX rfl gb (by exact aC eT rfl (is_r _ (some ⟨p, o, none⟩) a2 n c n2 c2 N n (h.st hs) hni)) rfl rfl ?_; rintro _ _ ⟨rfl, hE⟩; rw [his]; have hs := hs.ext hE; (try simp only [zcc] at hs))) | ((apply cN 105; refine cX rfl gb (by exact aC eT rfl (is_r _ (some ⟨p, o, none⟩) a2 n c n2 c2 N 1 (h.st hs) h1i)) rfl rfl ?_; rintro _ _ ⟨rfl, hE⟩; rw [his1]; have hs := hs.ext hE; (try simp only [zcc] at hs))) | ((apply cN 118; refine cX rfl gb (by exact aC lF rfl (eV _ a2 n2 c2 E (hE0.st hs) hn2)) rfl rfl ?_; rintro _ _ ⟨rfl, hE⟩; rw [hce]; have hs := hs.ext hE; (try simp only [zcc] at hs))) | (apply aR) | ((first | (apply aI) | (apply bX; exact rfl; exact gb)); (first | (apply aV; first | exact aU hs rfl rfl aA | exact aJ hs rfl aA | exact bU (i := 0) (j := 1) (hr.st hs) hr0 rfl rfl rfl aA) | (apply aQ; exact aH rfl aA) | (apply aF; exact aB rfl aA) | (apply aT; first | exact aP rfl rfl aA | exact bP rfl rfl aA) | (apply aK; exact aM rfl rfl rfl aA) | (apply cB; exact cE rfl aA) | (apply cF; exact bO rfl gb rfl aA) | (apply bL; exact bY rfl aA) | (apply aO; exact aN rfl rfl (by omega) (by omega) aA)); first | (exact rfl; exact rfl) | exact rfl) | (apply bB) | (apply aG) | (apply bC) | (apply bJ) | (apply aL (t := 1); refine JL_o (by apply cD; exact bG hs rfl) rfl rfl ?_; rintro _ _ ⟨b1, rfl, hb1, hs, hE⟩) | (apply aS; refine bV rfl gb ?_))
  refine dG (α := Nat) [(1, _), (41, _), (42, _)] (fun k => [(4, .int .i64 (fR (N.take k))), (43, .int .i64 k)]) (fun k w' => St w NoF w' [Blk b1 (.cells #[.slice (some ⟨p, o, none⟩) n c, .slice a2 n2 c2] 57 (0, 0))] ∧ k ≤ n ∧ ∀ j, j < k → mX N E j = true) (fun k => n - k) 0 ⟨hs, Nat.zero_le _, fun j hj => absurd hj (Nat.not_lt_zero _)⟩ zss ?_
  rintro k w2 ⟨hs1, hk, hall⟩ ih
  have hs : St w NoF w2 [_] := hs1
  by_cases hlt : k < n
  · have hv : N[k]? = some (N[k]'(by omega)) := List.getElem?_eq_getElem (by omega)
    obtain ⟨x, hxd⟩ : ∃ x, x = N[k]'(by omega) := ⟨_, rfl⟩
    rw [← hxd] at hv
    have hxm := List.mem_of_getElem? hv
    obtain ⟨z1, z2, z3⟩ := hz x hxm
    obtain ⟨r, hrx, e1, e2, e3, e4⟩ := hm.get hv
    have e1 : r.1 = x.1 := e1
    have m1 : Sl dId All w r.2.1.1 r.2.1.2.1 r.2.1.2.2 x.2.1 := e2
    have m2 : Sl dStp All w r.2.2.1.1 r.2.2.1.2.1 r.2.2.1.2.2 x.2.2.1 := e3
    have m3 : Sl dStp All w r.2.2.2.1 r.2.2.2.2.1 r.2.2.2.2.2 x.2.2.2 := e4
    have l1 := m1.len
    have l2 := m2.len
    have l3 := m3.len
    have hnb : mX N E k = if x.1 then dR x.2.1 && (decide (jI E x.2.1 = ((k : Int) + 1, true)) && (gH N ((k : Int) + 1) x.2.2.1 true && gH N ((k : Int) + 1) x.2.2.2 false)) else decide (x.2.1.length + x.2.2.1.length + x.2.2.2.length = 0) := by unfold mX; rw [dF hv]
    have hmu : fR (N.take (k + 1)) = fR (N.take k) + if x.1 then 1 else 0 := by
      unfold fR
      rw [iT _ hv, List.length_append]
      cases x.1 <;> rfl
    have hmul : fR (N.take k) ≤ k := by unfold fR; exact Nat.le_trans (List.length_filter_le _ _) (by rw [List.length_take]; omega)
    rw [← e1] at hnb hmu
    obtain ⟨xb, hxb⟩ : ∃ b, r.1 = b := ⟨_, rfl⟩
    rw [hxb] at hnb hmu
    cases xb with
    | false =>
      have hxn : (!r.1) = true := by rw [hxb]; rfl
      rw [if_neg (by decide)] at hnb hmu
      by_cases hs0 : x.2.1.length + x.2.2.1.length + x.2.2.2.length = 0
      · have hs0' : ¬ (r.2.1.2.1 : Int) + r.2.2.1.2.1 + r.2.2.2.2.1 > 0 := by omega
        repeat' (first | (apply aR) | ((apply aI); (first | (apply aV; first | exact bI (i := k) (hr.st hs) hrx rfl rfl aA | exact aU hs rfl rfl aA | exact aJ hs rfl aA) | (apply aQ; exact aH rfl aA) | (apply aF; exact aB rfl aA) | (apply aT; exact aP rfl rfl aA) | (apply cJ; exact bR rfl rfl (by omega) (by first | (simp only [Int.reduceAdd]; exact rfl) | exact rfl) aA) | (apply aK; exact aM rfl rfl rfl aA) | (apply cB; exact cE rfl aA) | (apply bL; exact bY rfl aA) | (apply aO; exact aN rfl rfl (by omega) (by omega) aA)); first | (exact rfl; exact rfl) | exact rfl) | (apply bB) | (apply aG) | (apply bC) | (apply cI; refine cZ rfl ?_) | (apply bJ) | (apply aL (t := 6); refine JL_o (by apply bE; exact aX hs) rfl rfl ?_; rintro _ _ ⟨b6, rfl, hb6, hs, hE⟩) | (apply bH; refine JL_u (by apply bA; exact aZ hs rfl rfl rfl) rfl ?_; rintro _ _ ⟨hs, hF⟩) | (apply aS; first | refine bF rfl ob ?_ | refine bK rfl ob ?_ | refine bZ rfl gb ?_))
        refine ih (k + 1) _ _ ⟨hs.sel [1] (by decide), hlt, fun j hj => ?_⟩ (by omega) (by rw [hmu]; repeat' (first | exact trivial | exact rfl | apply And.intro))
        by_cases e : j = k
        · rw [e, hnb, decide_eq_true hs0]
        · exact hall j (by omega)
      · have hs0' : (r.2.1.2.1 : Int) + r.2.2.1.2.1 + r.2.2.2.2.1 > 0 := by omega
        rw [jJ (by omega) (hnb.trans (decide_eq_false hs0))]
        repeat' (first | (apply aR) | ((apply aI); (first | (apply aV; first | exact bI (i := k) (hr.st hs) hrx rfl rfl aA | exact aU hs rfl rfl aA | exact aJ hs rfl aA) | (apply aQ; exact aH rfl aA) | (apply aF; exact aB rfl aA) | (apply aT; exact aP rfl rfl aA) | (apply cJ; exact bR rfl rfl (by omega) (by first | (simp only [Int.reduceAdd]; exact rfl) | exact rfl) aA) | (apply aK; exact aM rfl rfl rfl aA) | (apply cB; exact cE rfl aA) | (apply bL; exact bY rfl aA) | (apply aO; exact aN rfl rfl (by omega) (by omega) aA)); first | (exact rfl; exact rfl) | exact rfl) | (apply bB) | (apply aG) | (apply bC) | (apply bJ) | (apply aL (t := 6); refine JL_o (by apply bE; exact aX hs) rfl rfl ?_; rintro _ _ ⟨b6, rfl, hb6, hs, hE⟩) | (apply bH; refine JL_u (by apply bA; exact aZ hs rfl rfl rfl) rfl ?_; rintro _ _ ⟨hs, hF⟩) | (apply aS; first | refine bF rfl ob ?_ | refine bZ rfl gb ?_))
        refine aY Tryz.func46 rfl (.tmp rfl .nil) ⟨rfl, hs.frm.ext⟩
    | true =>
      have hxn : (!r.1) = false := by rw [hxb]; rfl
      rw [if_pos rfl] at hnb hmu
      obtain ⟨f1, f2, hf⟩ : ∃ f1 f2, jI E x.2.1 = (f1, f2) := ⟨_, _, rfl⟩
      obtain ⟨tb, htb⟩ : ∃ b, dR x.2.1 = b := ⟨_, rfl⟩
      obtain ⟨sp, hsp⟩ : ∃ b, gH N ((k : Int) + 1) x.2.2.1 true = b := ⟨_, rfl⟩
      obtain ⟨sl, hsl⟩ : ∃ b, gH N ((k : Int) + 1) x.2.2.2 false = b := ⟨_, rfl⟩
      rw [hf, htb, hsp, hsl] at hnb
      cases tb with
      | false =>
        rw [jJ (k := k) (by omega) (by rw [hnb]; rfl)]
        repeat' (first | ((apply aW 119; refine JL_o (by exact aC qQ rfl (lU _ a2 n2 c2 E r.2.1.1 r.2.1.2.1 r.2.1.2.2 x.2.1 (hE0.st hs) hn2 (m1.st hs))) rfl rfl ?_; rintro _ _ ⟨rfl, hE⟩; rw [hf]; have hs := hs.ext hE; (try simp only [zcc] at hs))) | ((apply aW 59; refine JL_o (by exact aC en59 rfl (dL _ r.2.1.1 r.2.1.2.1 r.2.1.2.2 x.2.1 (m1.st hs))) rfl rfl ?_; rintro _ _ ⟨rfl, hE⟩; rw [htb]; have hs := hs.ext hE; (try simp only [zcc] at hs))) | (apply aR) | ((apply aI); (first | (apply aV; first | exact bI (i := k) (hr.st hs) hrx rfl rfl aA | exact aU hs rfl rfl aA | exact aJ hs rfl aA) | (apply aQ; exact aH rfl aA) | (apply aF; exact aB rfl aA) | (apply aT; exact aP rfl rfl aA) | (apply cJ; exact bR rfl rfl (by omega) (by first | (simp only [Int.reduceAdd]; exact rfl) | exact rfl) aA) | (apply aK; exact aM rfl rfl rfl aA) | (apply cB; exact cE rfl aA) | (apply cF; exact bW rfl gb rfl aA) | (apply bS; exact bM rfl rfl aA) | (apply aO; exact aN rfl rfl (by omega) (by omega) aA)); first | (exact rfl; exact rfl) | exact rfl) | (apply bB) | (apply aG) | (apply bC) | (apply bJ) | (apply aL (t := 6); refine JL_o (by apply bE; exact aX hs) rfl rfl ?_; rintro _ _ ⟨b6, rfl, hb6, hs, hE⟩) | (apply bH; refine JL_u (by apply bA; exact aZ hs rfl rfl rfl) rfl ?_; rintro _ _ ⟨hs, hF⟩) | (apply cW; (refine fM rfl gb rfl ?_)) | (apply aS; first | refine bF rfl ob ?_ | refine bZ rfl gb ?_ | refine bV rfl gb ?_))
        refine aY Tryz.func46 rfl (.tmp rfl .nil) ⟨rfl, hs.frm.ext⟩
      | true =>
      cases f2 with
      | false =>
        rw [jJ (k := k) (by omega) (by rw [hnb]; rw [decide_eq_false (fun e => by cases e)]; rfl)]
        repeat' (first | ((apply aW 119; refine JL_o (by exact aC qQ rfl (lU _ a2 n2 c2 E r.2.1.1 r.2.1.2.1 r.2.1.2.2 x.2.1 (hE0.st hs) hn2 (m1.st hs))) rfl rfl ?_; rintro _ _ ⟨rfl, hE⟩; rw [hf]; have hs := hs.ext hE; (try simp only [zcc] at hs))) | ((apply aW 59; refine JL_o (by exact aC en59 rfl (dL _ r.2.1.1 r.2.1.2.1 r.2.1.2.2 x.2.1 (m1.st hs))) rfl rfl ?_; rintro _ _ ⟨rfl, hE⟩; rw [htb]; have hs := hs.ext hE; (try simp only [zcc] at hs))) | (apply aR) | ((first | (apply aI) | (apply bX; exact rfl; exact gb)); (first | (apply aV; first | exact bI (i := k) (hr.st hs) hrx rfl rfl aA | exact aU hs rfl rfl aA | exact aJ hs rfl aA) | (apply aQ; exact aH rfl aA) | (apply aF; exact aB rfl aA) | (apply aT; exact aP rfl rfl aA) | (apply cJ; exact bR rfl rfl (by omega) (by first | (simp only [Int.reduceAdd]; exact rfl) | exact rfl) aA) | (apply aK; exact aM rfl rfl rfl aA) | (apply cB; exact cE rfl aA) | (apply cF; first | exact bW rfl gb rfl aA | exact bO rfl gb rfl aA) | (apply bS; exact bM rfl rfl aA) | (apply aO; exact aN rfl rfl (by omega) (by omega) aA)); first | (exact rfl; exact rfl) | exact rfl) | (apply bB) | (apply aG) | (apply bC) | (apply bJ) | (apply aL (t := 6); refine JL_o (by apply bE; exact aX hs) rfl rfl ?_; rintro _ _ ⟨b6, rfl, hb6, hs, hE⟩) | (apply bH; refine JL_u (by apply bA; exact aZ hs rfl rfl rfl) rfl ?_; rintro _ _ ⟨hs, hF⟩) | (apply cW; (refine fM rfl gb rfl ?_)) | (apply aS; first | refine bF rfl ob ?_ | refine bZ rfl gb ?_ | refine bV rfl gb ?_))
        refine aY Tryz.func46 rfl (.tmp rfl .nil) ⟨rfl, hs.frm.ext⟩
      | true =>
      by_cases hf1 : f1 = (k : Int) + 1
      rotate_left
      · have hf1' : f1 ≠ (k : Int) + 1 := hf1
        rw [jJ (k := k) (by omega) (by rw [hnb]; rw [decide_eq_false (fun e => hf1 (congrArg Prod.fst e))]; rfl)]
        repeat' (first | ((apply aW 119; refine JL_o (by exact aC qQ rfl (lU _ a2 n2 c2 E r.2.1.1 r.2.1.2.1 r.2.1.2.2 x.2.1 (hE0.st hs) hn2 (m1.st hs))) rfl rfl ?_; rintro _ _ ⟨rfl, hE⟩; rw [hf]; have hs := hs.ext hE; (try simp only [zcc] at hs))) | ((apply aW 59; refine JL_o (by exact aC en59 rfl (dL _ r.2.1.1 r.2.1.2.1 r.2.1.2.2 x.2.1 (m1.st hs))) rfl rfl ?_; rintro _ _ ⟨rfl, hE⟩; rw [htb]; have hs := hs.ext hE; (try simp only [zcc] at hs))) | (apply aR) | ((first | (apply aI) | (apply bX; exact rfl; exact gb)); (first | (apply aV; first | exact bI (i := k) (hr.st hs) hrx rfl rfl aA | exact aU hs rfl rfl aA | exact aJ hs rfl aA) | (apply aQ; exact aH rfl aA) | (apply aF; exact aB rfl aA) | (apply aT; exact aP rfl rfl aA) | (apply cJ; exact bR rfl rfl (by omega) (by first | (simp only [Int.reduceAdd]; exact rfl) | exact rfl) aA) | (apply aK; exact aM rfl rfl rfl aA) | (apply cB; exact cE rfl aA) | (apply cF; first | exact bW rfl gb rfl aA | exact bO rfl gb rfl aA) | (apply bS; exact bM rfl rfl aA) | (apply aO; exact aN rfl rfl (by omega) (by omega) aA)); first | (exact rfl; exact rfl) | exact rfl) | (apply bB) | (apply aG) | (apply bC) | (apply bJ) | (apply aL (t := 6); refine JL_o (by apply bE; exact aX hs) rfl rfl ?_; rintro _ _ ⟨b6, rfl, hb6, hs, hE⟩) | (apply bH; refine JL_u (by apply bA; exact aZ hs rfl rfl rfl) rfl ?_; rintro _ _ ⟨hs, hF⟩) | (apply cW; (refine fM rfl gb rfl ?_)) | (apply aS; first | refine bF rfl ob ?_ | refine bZ rfl gb ?_ | refine bV rfl gb ?_))
        refine aY Tryz.func46 rfl (.tmp rfl .nil) ⟨rfl, hs.frm.ext⟩
      have hf1' : ¬ f1 ≠ (k : Int) + 1 := fun e => e hf1
      rw [hf1, decide_eq_true rfl] at hnb
      cases sp with
      | false =>
        rw [jJ (k := k) (by omega) (by rw [hnb]; rfl)]
        repeat' (first | ((apply aW 119; refine JL_o (by exact aC qQ rfl (lU _ a2 n2 c2 E r.2.1.1 r.2.1.2.1 r.2.1.2.2 x.2.1 (hE0.st hs) hn2 (m1.st hs))) rfl rfl ?_; rintro _ _ ⟨rfl, hE⟩; rw [hf]; have hs := hs.ext hE; (try simp only [zcc] at hs))) | ((apply aW 59; refine JL_o (by exact aC en59 rfl (dL _ r.2.1.1 r.2.1.2.1 r.2.1.2.2 x.2.1 (m1.st hs))) rfl rfl ?_; rintro _ _ ⟨rfl, hE⟩; rw [htb]; have hs := hs.ext hE; (try simp only [zcc] at hs))) | ((apply cN 120; refine cX rfl gb (by exact aC yI rfl (lS _ (some ⟨p, o, none⟩) a2 r.2.2.1.1 n c n2 c2 r.2.2.1.2.1 r.2.2.1.2.2 N k x.2.2.1 true (h.st hs) hlt (m2.st hs))) rfl rfl ?_; rintro _ _ ⟨rfl, hE⟩; rw [hsp]; have hs := hs.ext hE; (try simp only [zcc] at hs))) | (apply aR) | ((first | (apply aI) | (apply bX; exact rfl; exact gb)); (first | (apply aV; first | exact bI (i := k) (hr.st hs) hrx rfl rfl aA | exact aU hs rfl rfl aA | exact aJ hs rfl aA) | (apply aQ; exact aH rfl aA) | (apply aF; exact aB rfl aA) | (apply aT; exact aP rfl rfl aA) | (apply cJ; exact bR rfl rfl (by omega) (by first | (simp only [Int.reduceAdd]; exact rfl) | exact rfl) aA) | (apply aK; exact aM rfl rfl rfl aA) | (apply cB; exact cE rfl aA) | (apply cF; first | exact bW rfl gb rfl aA | exact bO rfl gb rfl aA) | (apply bS; exact bM rfl rfl aA) | (apply aO; exact aN rfl rfl (by omega) (by omega) aA)); first | (exact rfl; exact rfl) | exact rfl) | (apply bB) | (apply aG) | (apply bC) | (apply bJ) | (apply aL (t := 6); refine JL_o (by apply bE; exact aX hs) rfl rfl ?_; rintro _ _ ⟨b6, rfl, hb6, hs, hE⟩) | (apply bH; refine JL_u (by apply bA; exact aZ hs rfl rfl rfl) rfl ?_; rintro _ _ ⟨hs, hF⟩) | (apply cW; (refine fM rfl gb rfl ?_)) | (apply aS; first | refine bF rfl ob ?_ | refine bZ rfl gb ?_ | refine bV rfl gb ?_))
        refine aY Tryz.func46 rfl (.tmp rfl .nil) ⟨rfl, hs.frm.ext⟩
      | true =>
      cases sl with
      | false =>
        rw [jJ (k := k) (by omega) (by rw [hnb]; rfl)]
        repeat' (first | ((apply aW 119; refine JL_o (by exact aC qQ rfl (lU _ a2 n2 c2 E r.2.1.1 r.2.1.2.1 r.2.1.2.2 x.2.1 (hE0.st hs) hn2 (m1.st hs))) rfl rfl ?_; rintro _ _ ⟨rfl, hE⟩; rw [hf]; have hs := hs.ext hE; (try simp only [zcc] at hs))) | ((apply aW 59; refine JL_o (by exact aC en59 rfl (dL _ r.2.1.1 r.2.1.2.1 r.2.1.2.2 x.2.1 (m1.st hs))) rfl rfl ?_; rintro _ _ ⟨rfl, hE⟩; rw [htb]; have hs := hs.ext hE; (try simp only [zcc] at hs))) | ((apply cN 120; refine cX rfl gb (by exact aC yI rfl (lS _ (some ⟨p, o, none⟩) a2 r.2.2.1.1 n c n2 c2 r.2.2.1.2.1 r.2.2.1.2.2 N k x.2.2.1 true (h.st hs) hlt (m2.st hs))) rfl rfl ?_; rintro _ _ ⟨rfl, hE⟩; rw [hsp]; have hs := hs.ext hE; (try simp only [zcc] at hs))) | ((apply cN 120; refine cX rfl gb (by exact aC yI rfl (lS _ (some ⟨p, o, none⟩) a2 r.2.2.2.1 n c n2 c2 r.2.2.2.2.1 r.2.2.2.2.2 N k x.2.2.2 false (h.st hs) hlt (m3.st hs))) rfl rfl ?_; rintro _ _ ⟨rfl, hE⟩; rw [hsl]; have hs := hs.ext hE; (try simp only [zcc] at hs))) | (apply aR) | ((first | (apply aI) | (apply bX; exact rfl; exact gb)); (first | (apply aV; first | exact bI (i := k) (hr.st hs) hrx rfl rfl aA | exact aU hs rfl rfl aA | exact aJ hs rfl aA) | (apply aQ; exact aH rfl aA) | (apply aF; exact aB rfl aA) | (apply aT; exact aP rfl rfl aA) | (apply cJ; exact bR rfl rfl (by omega) (by first | (simp only [Int.reduceAdd]; exact rfl) | exact rfl) aA) | (apply aK; exact aM rfl rfl rfl aA) | (apply cB; exact cE rfl aA) | (apply cF; exact bO rfl gb rfl aA) | (apply bS; exact bM rfl rfl aA) | (apply aO; exact aN rfl rfl (by omega) (by omega) aA)); first | (exact rfl; exact rfl) | exact rfl) | (apply bB) | (apply aG) | (apply bC) | (apply bJ) | (apply aL (t := 6); refine JL_o (by apply bE; exact aX hs) rfl rfl ?_; rintro _ _ ⟨b6, rfl, hb6, hs, hE⟩) | (apply bH; refine JL_u (by apply bA; exact aZ hs rfl rfl rfl) rfl ?_; rintro _ _ ⟨hs, hF⟩) | (apply aS; first | refine bF rfl ob ?_ | refine bZ rfl gb ?_ | refine bV rfl gb ?_))
        refine aY Tryz.func46 rfl (.tmp rfl .nil) ⟨rfl, hs.frm.ext⟩
      | true =>
        repeat' (first | ((apply aW 119; refine JL_o (by exact aC qQ rfl (lU _ a2 n2 c2 E r.2.1.1 r.2.1.2.1 r.2.1.2.2 x.2.1 (hE0.st hs) hn2 (m1.st hs))) rfl rfl ?_; rintro _ _ ⟨rfl, hE⟩; rw [hf]; have hs := hs.ext hE; (try simp only [zcc] at hs))) | ((apply aW 59; refine JL_o (by exact aC en59 rfl (dL _ r.2.1.1 r.2.1.2.1 r.2.1.2.2 x.2.1 (m1.st hs))) rfl rfl ?_; rintro _ _ ⟨rfl, hE⟩; rw [htb]; have hs := hs.ext hE; (try simp only [zcc] at hs))) | ((apply cN 120; refine cX rfl gb (by exact aC yI rfl (lS _ (some ⟨p, o, none⟩) a2 r.2.2.1.1 n c n2 c2 r.2.2.1.2.1 r.2.2.1.2.2 N k x.2.2.1 true (h.st hs) hlt (m2.st hs))) rfl rfl ?_; rintro _ _ ⟨rfl, hE⟩; rw [hsp]; have hs := hs.ext hE; (try simp only [zcc] at hs))) | ((apply cN 120; refine cX rfl gb (by exact aC yI rfl (lS _ (some ⟨p, o, none⟩) a2 r.2.2.2.1 n c n2 c2 r.2.2.2.2.1 r.2.2.2.2.2 N k x.2.2.2 false (h.st hs) hlt (m3.st hs))) rfl rfl ?_; rintro _ _ ⟨rfl, hE⟩; rw [hsl]; have hs := hs.ext hE; (try simp only [zcc] at hs))) | (apply aR) | ((first | (apply aI) | (apply bX; exact rfl; exact gb)); (first | (apply aV; first | exact bI (i := k) (hr.st hs) hrx rfl rfl aA | exact aU hs rfl rfl aA | exact aJ hs rfl aA) | (apply aQ; exact aH rfl aA) | (apply aF; exact aB rfl aA) | (apply aT; exact aP rfl rfl aA) | (apply cJ; exact bR rfl rfl (by omega) (by first | (simp only [Int.reduceAdd]; exact rfl) | exact rfl) aA) | (apply aK; exact aM rfl rfl rfl aA) | (apply cB; exact cE rfl aA) | (apply cF; exact bO rfl gb rfl aA) | (apply bS; exact bM rfl rfl aA) | (apply aO; exact aN rfl rfl (by omega) (by omega) aA)); first | (exact rfl; exact rfl) | exact rfl) | (apply bB) | (apply aG) | (apply bC) | (apply bN) | (apply bJ) | (apply aL (t := 6); refine JL_o (by apply bE; exact aX hs) rfl rfl ?_; rintro _ _ ⟨b6, rfl, hb6, hs, hE⟩) | (apply bH; refine JL_u (by apply bA; exact aZ hs rfl rfl rfl) rfl ?_; rintro _ _ ⟨hs, hF⟩) | (apply aS; first | refine bF rfl ob ?_ | refine bV rfl gb ?_))
        refine ih (k + 1) _ _ ⟨hs.sel [1] (by decide), hlt, fun j hj => ?_⟩ (by omega) (by rw [hmu]; repeat' (first | exact trivial | exact rfl | apply And.intro))
        by_cases e : j = k
        · rw [e, hnb]; rfl
        · exact hall j (by omega)
  · have hkn : k = n := by omega
    subst hkn
    rw [List.take_of_length_le (by omega)] at *
    have hall2 : (List.range N.length).all (mX N E) = true := List.all_eq_true.2 fun j hj => hall j (by have := List.mem_range.1 hj; omega)
    by_cases hmm : fR N = (allF E).length
    · have hmm' : ¬ ((fR N : Nat) : Int) ≠ ((allF E).length : Nat) := fun e => e (by omega)
      rw [jY (by unfold eG; rw [hhd, hall2, decide_eq_true hmm]; rfl)]
      repeat' (first | ((apply aW 121; refine JL_o (by exact aC en121 rfl (many_r _ a2 n2 c2 E (hE0.st hs) hn2)) rfl rfl ?_; rintro _ _ ⟨rfl, hE⟩; have hs := hs.ext hE; (try simp only [zcc] at hs))) | (apply aR) | ((apply aI); (first | (apply aV; first | exact aU hs rfl rfl aA | exact aJ hs rfl aA) | (apply aQ; exact aH rfl aA) | (apply aF; exact aB rfl aA) | (apply aT; exact aP rfl rfl aA) | (apply aK; exact aM rfl rfl rfl aA)); first | (exact rfl; exact rfl) | exact rfl) | (apply bB) | (apply aG) | (apply cI; refine cZ rfl ?_) | (apply bJ) | (apply aS; refine bK rfl ob ?_))
      refine aY Tryz.func46 rfl (.tmp rfl .nil) ⟨rfl, hs.frm.ext⟩
    · have hmm' : ((fR N : Nat) : Int) ≠ ((allF E).length : Nat) := fun e => hmm (by omega)
      rw [gO (by unfold eG; rw [decide_eq_false hmm]; simp)]
      repeat' (first | ((apply aW 121; refine JL_o (by exact aC en121 rfl (many_r _ a2 n2 c2 E (hE0.st hs) hn2)) rfl rfl ?_; rintro _ _ ⟨rfl, hE⟩; have hs := hs.ext hE; (try simp only [zcc] at hs))) | (apply aR) | ((apply aI); (first | (apply aV; first | exact aU hs rfl rfl aA | exact aJ hs rfl aA) | (apply aQ; exact aH rfl aA) | (apply aF; exact aB rfl aA) | (apply aT; exact aP rfl rfl aA) | (apply aK; exact aM rfl rfl rfl aA)); first | (exact rfl; exact rfl) | exact rfl) | (apply bB) | (apply aG) | (apply cI; refine cZ rfl ?_) | (apply aS; first | refine bF rfl ob ?_ | refine bK rfl ob ?_))
      refine aY Tryz.func46 rfl (.tmp rfl .nil) ⟨rfl, hs.frm.ext⟩
theorem gfind_r (w : World) (a a2 a3 : Option Addr) (n c n2 c2 n3 c3 : Nat) (N : List NM) (E : List Ent) (t : List Int) (h : Sl jD All w a n c N) (hE0 : Sl dEnt All w a2 n2 c2 E) (hn2 : n2 ≤ 1048576) (hz : szN N) (ht : Sl dId All w a3 n3 c3 t) :
    Ret Tryz.prog 51 #[.agg #[.slice a n c, .slice a2 n2 c2], .slice a3 n3 c3] w fun v w' => v = (if eG N E then .tuple #[.int .i64 (jI E t).1, .bool (jI E t).2] else .tuple #[.int .i64 0, .bool false]) ∧ Ext w w' := by
  refine cG (l := [_, _]) Tryz.func51 rfl Tryz.ntmps51 (by simp) ?_
  have hs := St.init w
  cases hc : eG N E with
  | false =>
    have he := gO hc
    repeat' (first | ((apply aW 46; refine JL_o (by exact aC en46 rfl (dM _ a a2 n c n2 c2 N E (h.st hs) (hE0.st hs) hn2 hz)) rfl rfl ?_; rintro _ _ ⟨rfl, hE⟩; rw [he]; have hs := hs.ext hE; (try simp only [zcc] at hs))) | (apply aR) | ((apply aI); (first | (apply aV; first | exact aU hs rfl rfl aA | exact aJ hs rfl aA) | (apply aF; exact aB rfl aA) | (apply aK; exact aM rfl rfl rfl aA)); first | (exact rfl; exact rfl) | exact rfl) | (apply bB) | (apply aG) | (apply aL (t := 2); refine JL_o (by apply cD; exact bG hs rfl) rfl rfl ?_; rintro _ _ ⟨b2, rfl, hb2, hs, hE⟩) | (apply aS; refine bF rfl ob ?_))
    refine aY Tryz.func51 rfl (.tmp rfl (.tmp rfl .nil)) ⟨rfl, hs.frm.ext⟩
  | true =>
    have he := jY hc
    repeat' (first | ((apply aW 46; refine JL_o (by exact aC en46 rfl (dM _ a a2 n c n2 c2 N E (h.st hs) (hE0.st hs) hn2 hz)) rfl rfl ?_; rintro _ _ ⟨rfl, hE⟩; rw [he]; have hs := hs.ext hE; (try simp only [zcc] at hs))) | ((apply aW 119; refine JL_o (by exact aC qQ rfl (lU _ a2 n2 c2 E a3 n3 c3 t (hE0.st hs) hn2 (ht.st hs))) rfl rfl ?_; rintro _ _ ⟨rfl, hE⟩; have hs := hs.ext hE; (try simp only [zcc] at hs))) | (apply aR) | ((apply aI); (first | (apply aV; first | exact aU hs rfl rfl aA | exact aJ hs rfl aA) | (apply aQ; exact aH rfl aA) | (apply aF; exact aB rfl aA) | (apply aT; exact aP rfl rfl aA) | (apply aK; exact aM rfl rfl rfl aA) | (apply bS; exact bM rfl rfl aA)); first | (exact rfl; exact rfl) | exact rfl) | (apply bB) | (apply aG) | (apply bJ) | (apply aL (t := 2); refine JL_o (by apply cD; exact bG hs rfl) rfl rfl ?_; rintro _ _ ⟨b2, rfl, hb2, hs, hE⟩) | (apply aS; refine bK rfl ob ?_))
    refine aY Tryz.func51 rfl (.tmp rfl (.tmp rfl .nil)) ⟨rfl, hs.frm.ext⟩
def typC (N : List NM) (E : List Ent) (x : Int) : Int := if eG N E then (if isM N x then 0 else 2) else 220
def typL (N : List NM) (E : List Ent) (x : Int) : List Int := if typC N E x = 0 then (dS N x).2.1 else []
theorem gtype_r (w : World) (a a2 : Option Addr) (n c n2 c2 : Nat) (N : List NM) (E : List Ent) (x : Int) (h : Sl jD All w a n c N) (hE0 : Sl dEnt All w a2 n2 c2 E) (hn2 : n2 ≤ 1048576) (hz : szN N) (hx : inK .i64 x) :
    Ret Tryz.prog 44 #[.agg #[.slice a n c, .slice a2 n2 c2], .int .i64 x] w fun v w' => ∃ a', v = .tuple #[.slice a' (typL N E x).length (typL N E x).length, .int .i64 (typC N E x)] ∧ Fresh w w' [RowU a' (typL N E x).length (typL N E x).length (typL N E x)] := by
  refine cG (l := [_, _]) Tryz.func44 rfl Tryz.ntmps44 (by simp) ?_
  have hs := St.init w
  have hl := h.len
  obtain ⟨rs, hr, hm⟩ := Sl.raw (D := nN) h
  cases hc : eG N E with
  | false =>
    have he := gO hc
    have e1 : typC N E x = 220 := by unfold typC; rw [hc]; rfl
    have e2 : typL N E x = [] := by unfold typL; rw [e1]; rfl
    rw [e1, e2]
    repeat' (first | ((apply aW 46; refine JL_o (by exact aC en46 rfl (dM _ a a2 n c n2 c2 N E (h.st hs) (hE0.st hs) hn2 hz)) rfl rfl ?_; rintro _ _ ⟨rfl, hE⟩; rw [he]; have hs := hs.ext hE; (try simp only [zcc] at hs))) | (apply aR) | ((apply aI); (first | (apply aV; first | exact aU hs rfl rfl aA | exact aJ hs rfl aA) | (apply aQ; exact aH rfl aA) | (apply aF; exact aB rfl aA) | (apply aK; exact aM rfl rfl rfl aA)); first | (exact rfl; exact rfl) | exact rfl) | (apply bB) | (apply aG) | (apply aL (t := 2); refine JL_o (by apply cD; exact bG hs rfl) rfl rfl ?_; rintro _ _ ⟨b2, rfl, hb2, hs, hE⟩) | (apply aS; refine bF rfl ob ?_))
    have hs := hs.nilRow 29 1
    refine aY Tryz.func44 rfl (.tmp rfl (.tmp rfl .nil)) ⟨none, rfl, hs.out (.cons_cons _ (List.nil_sublist _))⟩
  | true =>
    have he := jY hc
    cases hi : isM N x with
    | false =>
      have e1 : typC N E x = 2 := by unfold typC; rw [hc, hi]; rfl
      have e2 : typL N E x = [] := by unfold typL; rw [e1]; rfl
      rw [e1, e2]
      repeat' (first | ((apply aW 46; refine JL_o (by exact aC en46 rfl (dM _ a a2 n c n2 c2 N E (h.st hs) (hE0.st hs) hn2 hz)) rfl rfl ?_; rintro _ _ ⟨rfl, hE⟩; rw [he]; have hs := hs.ext hE; (try simp only [zcc] at hs))) | ((apply aW 105; refine JL_o (by exact aC eT rfl (is_r _ a a2 n c n2 c2 N x (h.st hs) hx)) rfl rfl ?_; rintro _ _ ⟨rfl, hE⟩; rw [hi]; have hs := hs.ext hE; (try simp only [zcc] at hs))) | (apply aR) | ((apply aI); (first | (apply aV; first | exact aU hs rfl rfl aA | exact aJ hs rfl aA) | (apply aQ; exact aH rfl aA) | (apply aF; exact aB rfl aA) | (apply aK; exact aM rfl rfl rfl aA) | (apply cB; exact cE rfl aA)); first | (exact rfl; exact rfl) | exact rfl) | (apply bB) | (apply aG) | (apply bJ) | (apply aL (t := 2); refine JL_o (by apply cD; exact bG hs rfl) rfl rfl ?_; rintro _ _ ⟨b2, rfl, hb2, hs, hE⟩) | (apply aS; first | refine bK rfl ob ?_ | refine bZ rfl gb ?_))
      have hs := hs.nilRow 29 1
      refine aY Tryz.func44 rfl (.tmp rfl (.tmp rfl .nil)) ⟨none, rfl, hs.out (.cons_cons _ (List.nil_sublist _))⟩
    | true =>
      have e1 : typC N E x = 0 := by unfold typC; rw [hc, hi]; rfl
      obtain ⟨j, y, hj, hy, _⟩ := isM_true.1 hi
      have e2 : typL N E x = y.2.1 := by unfold typL; rw [e1, if_pos rfl, hj, dK hy]
      rw [e1, e2]
      have hjl := (List.getElem?_eq_some_iff.1 hy).1
      obtain ⟨r, hr0, _, f2, _⟩ := hm.get hy
      have m1 : Sl dId All w r.2.1.1 r.2.1.2.1 r.2.1.2.2 y.2.1 := f2
      have hrj : rs[(x - 1).toNat]? = some r := by rw [hj, show ((j : Int) + 1 - 1).toNat = j by omega]; exact hr0
      have hb : 1 ≤ x ∧ x ≤ n := by omega
      have hyl := m1.len
      have hy6 := (hz y (List.mem_of_getElem? hy)).1
      have hmx : n ≤ 9223372036854775807 := by have h3 := h.le; have h4 := h.cap; unfold maxLen at h4; omega
      obtain ⟨p, o, rfl⟩ := hr.sl.addr (by omega)
      repeat' (first | ((apply aW 46; refine JL_o (by exact aC en46 rfl (dM _ (some ⟨p, o, none⟩) a2 n c n2 c2 N E (h.st hs) (hE0.st hs) hn2 hz)) rfl rfl ?_; rintro _ _ ⟨rfl, hE⟩; rw [he]; have hs := hs.ext hE; (try simp only [zcc] at hs))) | ((apply aW 105; refine JL_o (by exact aC eT rfl (is_r _ (some ⟨p, o, none⟩) a2 n c n2 c2 N x (h.st hs) hx)) rfl rfl ?_; rintro _ _ ⟨rfl, hE⟩; rw [hi]; have hs := hs.ext hE; (try simp only [zcc] at hs))) | ((apply aW 114; refine JL_o (by exact aC yJ rfl (kP _ r.2.1.1 r.2.1.2.1 r.2.1.2.2 y.2.1 (m1.st hs) (by omega))) rfl rfl ?_; rintro _ _ ⟨a5, rfl, hf⟩; have hs := hs.fresh hf; (try simp only [zcc] at hs))) | (apply aR) | ((apply aI); (first | (apply aV; first | exact aU hs rfl rfl aA | exact aJ hs rfl aA | exact bU (i := (x - 1).toNat) (j := 1) (hr.st hs) hrj rfl rfl rfl aA) | (apply aQ; exact aH rfl aA) | (apply aF; exact aB rfl aA) | (apply aT; first | exact aP rfl rfl aA | exact bP rfl rfl aA) | (apply dZ; exact dI rfl rfl (by omega) aA) | (apply aK; exact aM rfl rfl rfl aA) | (apply cB; exact cE rfl aA) | (apply aO; exact aN rfl rfl (by omega) (by omega) aA)); first | (exact rfl; exact rfl) | exact rfl) | (apply bB) | (apply aG) | (apply bJ) | (apply aL (t := 2); refine JL_o (by apply cD; exact bG hs rfl) rfl rfl ?_; rintro _ _ ⟨b2, rfl, hb2, hs, hE⟩) | (apply aS; first | refine bK rfl ob ?_ | refine bV rfl gb ?_))
      rw [hyl]
      refine aY Tryz.func44 rfl (.tmp rfl (.tmp rfl .nil)) ⟨a5, rfl, hs.out (.cons_cons _ (List.nil_sublist _))⟩
end Go.Eng
end
section
namespace Go.Eng
open Go.Proofs
set_option linter.unusedSimpArgs false
set_option linter.unusedVariables false
theorem mB (xs vs : List Value) (off i : Nat) (h : off + vs.length ≤ xs.length) : (bQ xs off vs)[i]? = if i < off then xs[i]? else if i < off + vs.length then vs[i - off]? else xs[i]? := by
  unfold bQ
  have e1 : (xs.take off).length = off := by rw [List.length_take]; omega
  by_cases c1 : i < off
  · rw [if_pos c1, List.append_assoc, List.getElem?_append_left (by omega), List.getElem?_take, if_pos c1]
  · rw [if_neg c1]
    by_cases c2 : i < off + vs.length
    · rw [if_pos c2, List.append_assoc, List.getElem?_append_right (by omega), e1, List.getElem?_append_left (by omega)]
    · rw [if_neg c2, List.getElem?_append_right (by rw [List.length_append]; omega), List.getElem?_drop, List.length_append, e1]
      congr 1; omega
theorem oF {α : Type} {d : Ty α} {enc : α → List Value} {ok : α → Prop} [Q : FlatTy d enc ok] (rs : List α) (k j : Nat) (r r' : α) (vs : List Value) (hr : rs[k]? = some r) (hj : j + vs.length ≤ d.sz) (h : enc r' = bQ (enc r) j vs) : bQ (encL enc rs) (k * d.sz + j) vs = encL enc (rs.set k r') := by
  have hk := (List.getElem?_eq_some_iff.1 hr).1
  have hle : (encL enc rs).length = rs.length * d.sz := eW (d := d) rs
  have hkz : k * d.sz + d.sz ≤ rs.length * d.sz := by rw [← Nat.succ_mul]; exact Nat.mul_le_mul_right _ hk
  rw [jZ (d := d) rs k r' hk]
  have l1 : (enc r).length = d.sz := Q.len r
  have l2 : (enc r').length = d.sz := Q.len r'
  apply List.ext_getElem?
  intro i
  rw [mB _ _ _ _ (by omega), mB _ _ _ _ (by omega), l2]
  by_cases c1 : i < k * d.sz
  · rw [if_pos (by omega), if_pos c1]
  · rw [if_neg c1]
    by_cases c2 : i < k * d.sz + d.sz
    · obtain ⟨q, rfl⟩ : ∃ q, i = k * d.sz + q := ⟨i - k * d.sz, by omega⟩
      have hg := eX (d := d) rs k q r hr (by omega)
      rw [if_pos c2, h, Nat.add_sub_cancel_left, mB _ _ _ _ (by omega), hg]
      by_cases c3 : q < j
      · rw [if_pos c3, if_pos (by omega)]
      · rw [if_neg c3, if_neg (by omega)]
        by_cases c4 : q < j + vs.length
        · rw [if_pos c4, if_pos (by omega)]; congr 1; omega
        · rw [if_neg c4, if_neg (by omega)]
    · rw [if_neg c2, if_neg (by omega), if_neg (by omega)]
abbrev RowI (a : Option Addr) (n c : Nat) (xs : List Int) : HP := Row a n c 3 1 (xs.map (.int .i64))
theorem xL (xs : List Int) (x : Int) : List.map (Value.int .i64) xs ++ [.int .i64 x] = List.map (Value.int .i64) (xs ++ [x]) := by rw [List.map_append]; rfl
def uN (N : List NM) (k : Nat) : List Nat := (List.range k).filter (fun j => (N.getD j n0).1)
def lB (N : List NM) : List Int := (uN N N.length).map (fun (k : Nat) => (k : Int) + 1)
def pU (N : List NM) (E : List Ent) : List Int := if eG N E then lB N else []
theorem sV (N : List NM) (k : Nat) : uN N (k + 1) = uN N k ++ if (N.getD k n0).1 then [k] else [] := by
  unfold uN
  rw [List.range_succ, List.filter_append]
  congr 1
  by_cases c : (N.getD k n0).1 = true
  · rw [if_pos c, List.filter_cons, if_pos c]; rfl
  · rw [if_neg c, List.filter_cons, if_neg c]; rfl
theorem uN_pre {N : List NM} {k n : Nat} (h : k ≤ n) : ∃ l, uN N n = uN N k ++ l := by
  induction n with
  | zero => obtain rfl : k = 0 := by omega
            exact ⟨[], (List.append_nil _).symm⟩
  | succ n ih =>
    by_cases e : k = n + 1
    · subst e; exact ⟨[], (List.append_nil _).symm⟩
    · obtain ⟨l, hl⟩ := ih (by omega)
      rw [sV, hl, List.append_assoc]
      exact ⟨_, rfl⟩
theorem uN_len (N : List NM) (k : Nat) : (uN N k).length ≤ k := by unfold uN; have := List.length_filter_le (fun j => (N.getD j n0).1) (List.range k); rw [List.length_range] at this; exact this
def nodeX (N : List NM) (rs : List RNd) (i : Nat) (vals : List Value) (cx : List HP) : Prop := ∃ k r, (uN N N.length)[i]? = some k ∧ rs[k]? = some r ∧ vals = [.int .i64 ((k : Int) + 1), .agg (cNd r).toArray] ∧ cx = []
attribute [local irreducible] Hold J JL JD JX JXat OpR OpG Ret RetV Is Blk Row
set_option maxRecDepth 100000
set_option maxHeartbeats 1000000
theorem gused_r (w : World) (a a2 : Option Addr) (n c n2 c2 : Nat) :
    Ret Tryz.prog 124 #[.agg #[.slice a n c, .slice a2 n2 c2]] w fun v w' => ∃ b1, v = .func (.func 186) #[] #[ptr b1] ∧ Fresh w w' [Blk b1 (.cells #[.slice a n c, .slice a2 n2 c2] 57 (0, 0))] := by
  refine cG (l := [_]) Tryz.func124 rfl Tryz.ntmps124 (by simp) ?_
  have hs := St.init w
  repeat' (first | (apply aR) | ((apply aI); (first | (apply aF; exact aB rfl aA) | (apply eR; exact gQ rfl aA)); first | (exact rfl; exact rfl) | exact rfl) | (apply bB) | (apply aG) | (apply aL (t := 1); refine JL_o (by apply cD; exact bG hs rfl) rfl rfl ?_; rintro _ _ ⟨b1, rfl, hb1, hs, hE⟩))
  refine aY Tryz.func124 rfl (.tmp rfl .nil) ⟨b1, rfl, hs.out (List.Sublist.refl _)⟩
theorem wC (R : Nat → Prop) (wr : World) (b1 : Nat) (a a2 : Option Addr) (n c n2 c2 : Nat) (N : List NM) (rs : List RNd) (hr : Sl dRNd R wr a n c rs) (hl : N.length = n) (hm : ∀ (k : Nat) (r : RNd) (x : NM), rs[k]? = some r → N[k]? = some x → r.1 = x.1) (hb1 : wr.heap[b1]? = some (.cells #[.slice a n c, .slice a2 n2 c2] 57 (0, 0))) :
    zP Tryz.prog (.func (.func 186) #[] #[ptr b1]) (uN N N.length).length (nodeX N rs) wr (fun k => (R k ∧ k < wr.heap.size) ∨ k = b1) := by
  intro y C Cs w c0 hy hK h0 hheld
  refine RetV.closure (avs := [_]) (cap := [_]) en186 ?_
  refine cG (l := [_, _]) Tryz.func186 rfl Tryz.ntmps186 (by simp) ?_
  have hs := hheld.st
  have hlr := hr.len
  have hmx : n ≤ 9223372036854775807 := by have h1 := hr.le; have h2 := hr.cap; unfold maxLen at h2; omega
  have hb1w := (hK b1 (.inr rfl)).1.trans hb1
  have hb1F := (hK b1 (.inr rfl)).2
  have hsl : ∀ {W : World} {L : List HP}, St w (Star c0).foot W L → Sl dRNd All W a n c rs := fun {W L} hs => (hr.loc (fun k hk hlt => hs.keepK (hK k (.inl ⟨hk, hlt⟩)).1 (hK k (.inl ⟨hk, hlt⟩)).2 hlt)).weak (fun _ _ => trivial)
  repeat' (first | (apply aR) | ((apply aI); (first | (apply aV; first | exact bT (v := .slice a n c) (hs.keep_cell (cK (off := 0) hb1w rfl) hb1F) rfl aA) | (apply aQ; exact aH rfl aA) | (apply aT; exact aP rfl rfl aA) | (apply bL; exact bY rfl aA)); first | (exact rfl; exact rfl) | exact rfl) | (apply bB) | (apply aG) | (apply bC))
  refine dG (α := Nat × List HP) [(0, _), (1, _), (7, _)] (fun g => [(8, .int .i64 g.1)]) (fun g w' => St w (Star c0).foot w' g.2 ∧ C (uN N g.1).length g.2 ∧ g.1 ≤ n) (fun g => n - g.1) (0, c0) ⟨hs, h0, Nat.zero_le _⟩ zss ?_
  rintro ⟨k, ck⟩ w' ⟨hs, hC, hk⟩ ih
  dsimp only at hs hC hk ih ⊢
  by_cases hlt : k < n
  · obtain ⟨x, hx⟩ : ∃ x, N[k]? = some x := ⟨_, List.getElem?_eq_getElem (by omega)⟩
    obtain ⟨r, hrk⟩ : ∃ r, rs[k]? = some r := ⟨_, List.getElem?_eq_getElem (by omega)⟩
    have e1 := hm k r x hrk hx
    have hus := sV N k
    rw [dF hx, ← e1] at hus
    obtain ⟨p2, o2, rfl⟩ := (hsl hs).sl.addr (by omega)
    obtain ⟨xb, hxb⟩ : ∃ b, r.1 = b := ⟨_, rfl⟩
    cases xb with
    | true =>
      rw [hxb, if_pos rfl] at hus
      have hul := congrArg List.length hus
      rw [List.length_append] at hul
      obtain ⟨l, hpre⟩ := uN_pre (N := N) (k := k + 1) (n := N.length) (by omega)
      have hge : (uN N N.length)[(uN N k).length]? = some k := by
        rw [hpre, hus, List.append_assoc, List.getElem?_append_right (Nat.le_refl _), Nat.sub_self]; rfl
      have hlt2 := (List.getElem?_eq_some_iff.1 hge).1
      repeat' (first | ((apply cW; have hs2 : St w (Star c0).foot _ ((ck ++ []) ++ [Blk b4 _]) := (by simpa using hs.perm (List.perm_append_comm (l₁ := [_]) (l₂ := ck))); refine cX (t := 23) rfl gb (cH rfl rfl (hy _ _ [_, _] _ ck hlt2 hC ⟨k, r, hge, hrk, rfl, rfl⟩ hs2.held hs2.frm)) rfl rfl ?_; rintro _ _ ⟨c', ⟨rfl, hC'⟩ | ⟨rfl, hC'⟩, ht⟩ <;> have hs : St w (Star c0).foot _ c' := (hs2.take ht).sub (List.sublist_append_left _ _))) | (apply aR) | ((first | (apply aI) | (apply bX; exact rfl; exact gb)); (first | (apply aV; first | exact aU hs rfl rfl aA | exact aJ hs rfl aA | exact bT (v := .slice (some ⟨p2, o2, none⟩) n c) (hs.keep_cell (cK (off := 0) hb1w rfl) hb1F) rfl aA | exact bI (i := k) (hsl hs) hrk rfl rfl aA) | (apply aQ; exact aH rfl aA) | (apply aF; exact aB rfl aA) | (apply aT; exact aP rfl rfl aA) | (apply cJ; exact bR rfl rfl (by omega) (by first | (simp only [Int.reduceAdd]; exact rfl) | exact rfl) aA) | (apply aK; exact aM rfl rfl rfl aA) | (apply cB; exact cE rfl aA) | (apply cF; exact bW rfl gb rfl aA) | (apply aO; exact aN rfl rfl (by omega) (by omega) aA)); first | (exact rfl; exact rfl) | exact rfl) | (apply bB) | (apply aG) | (apply bC) | (apply bN) | (apply bJ) | (apply aL (t := 4); refine JL_o (by apply bE; exact aX hs) rfl rfl ?_; rintro _ _ ⟨b4, rfl, hb4, hs, hE⟩) | (apply bH; refine JL_u (by apply bA; exact aZ hs rfl rfl rfl) rfl ?_; rintro _ _ ⟨hs, hF⟩) | (apply aS; first | refine bF rfl ob ?_ | refine bZ rfl gb ?_ | refine bV rfl gb ?_))
      · refine ih (k + 1, c') _ _ ⟨hs, by dsimp only; rw [hul]; exact hC', hlt⟩ (by dsimp only; omega) zss
      · refine aY Tryz.func186 rfl .nil ⟨c', .inr hC', St.turned (M := []) (by simpa using hs)⟩
    | false =>
      rw [hxb, if_neg (by decide), List.append_nil] at hus
      repeat' (first | (apply aR) | ((apply aI); (first | (apply aV; first | exact aU hs rfl rfl aA | exact aJ hs rfl aA | exact bT (v := .slice (some ⟨p2, o2, none⟩) n c) (hs.keep_cell (cK (off := 0) hb1w rfl) hb1F) rfl aA | exact bI (i := k) (hsl hs) hrk rfl rfl aA) | (apply aQ; exact aH rfl aA) | (apply aF; exact aB rfl aA) | (apply aT; exact aP rfl rfl aA) | (apply cJ; exact bR rfl rfl (by omega) (by first | (simp only [Int.reduceAdd]; exact rfl) | exact rfl) aA) | (apply aK; exact aM rfl rfl rfl aA) | (apply cF; exact bO rfl gb rfl aA) | (apply aO; exact aN rfl rfl (by omega) (by omega) aA)); first | (exact rfl; exact rfl) | exact rfl) | (apply bB) | (apply aG) | (apply bC) | (apply bN) | (apply bJ) | (apply aL (t := 4); refine JL_o (by apply bE; exact aX hs) rfl rfl ?_; rintro _ _ ⟨b4, rfl, hb4, hs, hE⟩) | (apply bH; refine JL_u (by apply bA; exact aZ hs rfl rfl rfl) rfl ?_; rintro _ _ ⟨hs, hF⟩) | (apply cW; (refine fM rfl gb rfl ?_)) | (apply aS; first | refine bF rfl ob ?_ | refine bV rfl gb ?_))
      refine ih (k + 1, ck) _ _ ⟨hs.sub (List.sublist_cons_self _ _), by dsimp only; rw [hus]; exact hC, hlt⟩ (by dsimp only; omega) zss
  · have hkn : k = N.length := by omega
    rw [hkn] at hC
    repeat' (first | (apply aR) | ((apply aI); (apply aK; exact aM rfl rfl rfl aA); first | (exact rfl; exact rfl) | exact rfl) | (apply bB) | (apply aG) | (apply cI; refine cZ rfl ?_) | (apply aS; refine bK rfl ob ?_))
    refine fD Tryz.func186 rfl .nil ⟨ck, .inl hC, St.turned (M := []) (by simpa using hs)⟩
theorem tJ (w : World) (a a2 : Option Addr) (n c n2 c2 : Nat) (N : List NM) (E : List Ent) (h : Sl jD All w a n c N) (hE0 : Sl dEnt All w a2 n2 c2 E) (hn : n ≤ 1000000) (hn2 : n2 ≤ 1048576) (hz : szN N) :
    Ret Tryz.prog 49 #[.agg #[.slice a n c, .slice a2 n2 c2]] w fun v w' => ∃ a' c', v = .slice a' (pU N E).length c' ∧ Fresh w w' [RowI a' (pU N E).length c' (pU N E)] := by
  refine cG (l := [_]) Tryz.func49 rfl Tryz.ntmps49 (by simp) ?_
  have hs := St.init w
  have hl := h.len
  obtain ⟨rs, hr, hm⟩ := Sl.raw (D := nN) h
  cases hc : eG N E with
  | false =>
    have he := gO hc
    have e2 : pU N E = [] := by unfold pU; rw [hc]; rfl
    rw [e2]
    repeat' (first | ((apply aW 46; refine JL_o (by exact aC en46 rfl (dM _ a a2 n c n2 c2 N E (h.st hs) (hE0.st hs) hn2 hz)) rfl rfl ?_; rintro _ _ ⟨rfl, hE⟩; rw [he]; have hs := hs.ext hE; (try simp only [zcc] at hs))) | (apply aR) | ((apply aI); (first | (apply aV; first | exact aU hs rfl rfl aA | exact aJ hs rfl aA) | (apply aF; exact aB rfl aA) | (apply aK; exact aM rfl rfl rfl aA)); first | (exact rfl; exact rfl) | exact rfl) | (apply bB) | (apply aG) | (apply aL (t := 1); refine JL_o (by apply cD; exact bG hs rfl) rfl rfl ?_; rintro _ _ ⟨b1, rfl, hb1, hs, hE⟩) | (apply aS; refine bF rfl ob ?_))
    have hs := hs.nilRow 3 1
    refine aY Tryz.func49 rfl (.tmp rfl .nil) ⟨none, 0, rfl, hs.out (.cons_cons _ (List.nil_sublist _))⟩
  | true =>
    have he := jY hc
    have e2 : pU N E = lB N := by unfold pU; rw [hc]; rfl
    rw [e2]
    repeat' (first | ((apply aW 46; refine JL_o (by exact aC en46 rfl (dM _ a a2 n c n2 c2 N E (h.st hs) (hE0.st hs) hn2 hz)) rfl rfl ?_; rintro _ _ ⟨rfl, hE⟩; rw [he]; have hs := hs.ext hE; (try simp only [zcc] at hs))) | ((apply aW 124; refine JL_o (by exact aC en124 rfl (gused_r _ a a2 n c n2 c2)) rfl rfl ?_; rintro _ _ ⟨b9, rfl, hf⟩; have hs := hs.fresh hf; (try simp only [zcc] at hs))) | (apply aR) | ((apply aI); (first | (apply aV; first | exact aU hs rfl rfl aA | exact aJ hs rfl aA) | (apply aF; exact aB rfl aA) | (apply aK; exact aM rfl rfl rfl aA)); first | (exact rfl; exact rfl) | exact rfl) | (apply bB) | (apply aG) | (apply bC) | (apply bJ) | (apply aL (t := 1); refine JL_o (by apply cD; exact bG hs rfl) rfl rfl ?_; rintro _ _ ⟨b1, rfl, hb1, hs, hE⟩) | (apply aL (t := 3); refine JL_o (by apply bE; exact aX hs) rfl rfl ?_; rintro _ _ ⟨b3, rfl, hb3, hs, hE⟩) | (apply aS; refine bK rfl ob ?_))
    have hbt := hs.blk (b := b9)
    have hlt9 := hs.lt (b := b9)
    have hs := hs.nilRow 3 1
    have hs0 : St w NoF _ ([Blk b3 (.cells #[.slice none 0 0] 86 (0, 0)), RowI none 0 0 []] ++ [Blk b9 _, Blk b1 _]) := hs.sel [2, 0, 1, 3] (by decide)
    have hr9 : Sl dRNd (fun k => k < w.heap.size) w a n c rs := hr.foc.weak (fun k hk => Sl.below (d := dRNd) (by decide) hr k hk)
    have hit := wC (fun k => k < w.heap.size) _ b9 a a2 n c n2 c2 N rs (hr9.loc (fun k hk _ => hs0.frm.old k hk id)) hl (fun k r x hrk hx => (hm.2 k r x hrk hx).1) hbt
    have huM := uN_len N N.length
    obtain ⟨U, hU⟩ : ∃ U, U = (uN N N.length).map (fun (k : Nat) => (k : Int) + 1) := ⟨_, rfl⟩
    have hUl : U.length = (uN N N.length).length := by rw [hU, List.length_map]
    have hUL : lB N = U := by rw [hU]; rfl
    rw [hUL]
    refine rH (ps := [10, 11]) hs0 rfl ⟨186, #[ptr b9], rfl, en186⟩ hit
      (fun k A => ∃ a' c', A = [Blk b3 (.cells #[.slice a' k c'] 86 (0, 0)), RowI a' k c' (U.take k)])
      (fun j A => False) ⟨none, 0, rfl⟩ ?_ (by decide) ?_ ?_ ?_ ?_
    · rintro k (⟨hk, hk2⟩ | rfl)
      · exact ⟨rfl, fun hf => by have := hs0.foot0 k hf; omega, hk2⟩
      · exact ⟨rfl, fun hf => hs0.sepA (.head _) hf (gA _ _), hlt9⟩
    · rintro i vals cx ⟨_, _, _, _, rfl, _⟩; rfl
    · rintro l2 D tm k w1 A1 cx vals hD hDl hk ⟨a', c', rfl⟩ ⟨j, r, hj, hrj, rfl, rfl⟩ hh hold
      have hs : St _ _ _ [_, _, _] := hh.st
      have huk : U[k]? = some ((j : Int) + 1) := by rw [hU, List.getElem?_map, hj]; rfl
      have htk : U.take (k + 1) = U.take k ++ [(j : Int) + 1] := by rw [List.take_add_one, huk]; rfl
      repeat' (first | ((refine eQ hs (fun w2 hs => ?_))) | ((apply aL (t := 15); refine JL_o (by apply dO; exact fJ (xs := (U.take k).map (.int .i64)) (news := [.int .i64 ((j : Int) + 1)]) hs rfl rfl (qB (hs.blk (b := b14)) rfl) fF rfl (by omega) (by unfold maxLen; omega)) rfl rfl ?_; rintro _ _ ⟨a4, c4, rfl, hs, hF, hnil⟩; rw [xL, ← htk] at hs)) | (apply aR) | ((apply aI); (first | (apply aV; first | exact aU hs rfl rfl aA | exact aJ hs rfl aA) | (apply aQ; exact aH rfl aA) | (apply aF; exact aB rfl aA)); first | (exact rfl; exact rfl) | exact rfl) | (apply aG) | (apply bC) | (apply bN) | (apply aL (t := 14); refine JL_o (by apply cV; exact cO hs rfl (by omega) rfl) rfl rfl ?_; rintro _ _ ⟨b14, rfl, hb14, hs, hE⟩) | (apply bH; refine JL_u (by apply bA; exact aZ hs rfl rfl rfl) rfl ?_; rintro _ _ ⟨hs, hF⟩))
      have hs : St _ _ _ [_, _, _] := hs.sel [1, 2, 3] (by decide)
      refine jN hs (fun w3 hs => .inl ⟨rfl, _, ⟨a4, c4, rfl⟩, St.turned (M := []) hs⟩)
    · rintro w2 D A2 ⟨a', c', rfl⟩ hs
      have hs : St w NoF _ [_, _, _, _, _] := hs
      rw [← hUl, List.take_length] at hs
      repeat' (first | ((refine oN (lK hs (fun w3 hs => oL Tryz.func49 rfl (.tmp rfl .nil) ⟨a', c', rfl, (hs.sel [1] (by decide)).out (List.Sublist.refl _)⟩)))) | (apply aR) | ((apply aI); (first | (apply aV; first | exact aU hs rfl rfl aA) | (apply aF; exact aB rfl aA)); first | (exact rfl; exact rfl) | exact rfl) | (apply bB) | (apply aG) | (apply bN))
    · rintro w2 D A2 j hf hs
      exact hf.elim
end Go.Eng
end
section
namespace Go.Eng
open Go.Proofs
set_option linter.unusedSimpArgs false
set_option linter.unusedVariables false
attribute [local irreducible] Hold J JL JD JX JXat OpR OpG Ret RetV Is Blk Row
set_option maxRecDepth 100000
set_option maxHeartbeats 1000000
end Go.Eng
end
section
namespace Go.Eng
open Go.Proofs
set_option linter.unusedSimpArgs false
set_option linter.unusedVariables false
theorem yD {es : List Ent} {t : List Int} (h : ∀ y ∈ es.filter dW, y.2.1 ≠ t) : jI es t = (0, false) := by
  unfold jI
  by_cases hc : dD es = true
  · rw [if_pos hc]
    rcases gS es t with h1 | ⟨q, x, hx, _, h1, h2⟩
    · rw [h1, if_pos (by decide)]
    · exact absurd h2 (h x (List.mem_filter.2 ⟨List.mem_of_getElem? hx, decide_eq_true h1⟩))
  · rw [if_neg hc]
theorem sO {es : List Ent} (h : dD es = true) : allF es = allM es := by unfold allF; rw [if_pos h]
theorem vV {es : List Ent} (hc : dD es = true) {x : Ent} (hx : x ∈ es.filter dW) : sF es x.2.1 = 0 := by
  obtain ⟨i, h1, _⟩ := rT hc hx
  unfold sF
  rw [if_pos hc, h1, if_neg (by omega)]
attribute [local irreducible] Hold J JL JD JX JXat OpR OpG Ret RetV Is Blk Row
set_option maxRecDepth 100000
set_option maxHeartbeats 1000000
theorem drop_ok (w : World) (a : Option Addr) (n c : Nat) (es : List Ent) (a2 : Option Addr) (n2 c2 : Nat) (t : List Int) (h : Sl dEnt All w a n c es) (hn : n ≤ 1048576) (h2 : Sl (tInt .u64) All w a2 n2 c2 t) (hd : sF es t = 0) :
    Ret Tryz.prog 106 #[.agg #[.slice a n c], .slice a2 n2 c2] w fun u w' => ∃ (p : Nat) (x : Ent) (rs' : List REnt) (a' : Option Addr) (c' : Nat), (es[p]? = some x ∧ x.1 = 1 ∧ x.2.1 = t) ∧ u = .tuple #[.agg #[.slice a' n c'], .int .i64 0] ∧ Fresh w w' [dH a' n c' rs', Own rs' (es.set p gone)] :=
  (drop_r w a n c es a2 n2 c2 t h hn h2).mono fun u w' hh => by
    rcases hh with ⟨h1, _⟩ | ⟨_, h2⟩
    · exact absurd hd h1
    · exact h2
end Go.Eng
end
section
namespace Go.Eng
open Go.Proofs
set_option linter.unusedSimpArgs false
set_option linter.unusedVariables false
abbrev entAt (N : List NM) (j : Nat) : Ent := (1, (N.getD j n0).2.1, (j : Int) + 1)
def useE (N : List NM) (k : Nat) : List Ent := (uN N k).map (entAt N)
def entsK (N : List NM) (k : Nat) : List Ent := (useE N k).foldl pQ []
def fC (N : List NM) : List Ent := entsK N N.length
theorem mem_uN {N : List NM} {k j : Nat} : j ∈ uN N k ↔ j < k ∧ (N.getD j n0).1 = true := by
  unfold uN; rw [List.mem_filter, List.mem_range]
theorem uN_nodup (N : List NM) (k : Nat) : (uN N k).Pairwise (· ≠ ·) := (List.nodup_range (n := k)).sublist List.filter_sublist
theorem jK (N : List NM) : (fC N).Perm (useE N N.length) := by
  have := (lA (useE N N.length) [] List.Pairwise.nil).2
  rw [List.append_nil] at this
  exact this
theorem iU (N : List NM) : jA (fC N) := (lA _ [] List.Pairwise.nil).1
theorem qK (N : List NM) : (uN N N.length).length = fR N := by
  have h : ∀ k, k ≤ N.length → (uN N k).length = ((N.take k).filter (fun x => x.1)).length := by
    intro k
    induction k with
    | zero => intro _; rfl
    | succ k ih =>
      intro hk
      have hx : N[k]? = some (N[k]'(by omega)) := List.getElem?_eq_getElem (by omega)
      rw [sV, dF hx, List.length_append, ih (by omega), iT _ hx, List.length_append]
      cases (N[k]'(by omega)).1 <;> rfl
  have := h N.length (Nat.le_refl _)
  rw [List.take_length] at this
  exact this
theorem gU (N : List NM) : (fC N).length = fR N := by rw [(jK N).length_eq]; unfold useE; rw [List.length_map, qK]
theorem ents_mem {N : List NM} {e : Ent} : e ∈ fC N ↔ ∃ (j : Nat) (x : NM), N[j]? = some x ∧ x.1 = true ∧ e = (1, x.2.1, (j : Int) + 1) := by
  rw [(jK N).mem_iff]
  unfold useE
  rw [List.mem_map]
  constructor
  · rintro ⟨j, hj, rfl⟩
    obtain ⟨h1, h2⟩ := mem_uN.1 hj
    have hx : N[j]? = some (N[j]'h1) := List.getElem?_eq_getElem h1
    rw [dF hx] at h2
    exact ⟨j, _, hx, h2, by rw [entAt, dF hx]⟩
  · rintro ⟨j, x, hx, h1, rfl⟩
    exact ⟨j, mem_uN.2 ⟨(List.getElem?_eq_some_iff.1 hx).1, by rw [dF hx]; exact h1⟩, by rw [entAt, dF hx]⟩
abbrev hasU (t : List Int) (x : NM) : Bool := x.1 && decide (x.2.1 = t)
def sA (N : List NM) (t : List Int) : Nat → Nat → Nat
  | 0, _ => 0
  | f + 1, k => if hasU t (N.getD k n0) then k + 1 else sA N t f (k + 1)
def fT (N : List NM) (t : List Int) : Nat := sA N t N.length 0
theorem iH (N : List NM) (t : List Int) : ∀ f k, (sA N t f k = 0 ∧ ∀ i, k ≤ i → i < k + f → hasU t (N.getD i n0) = false) ∨ ∃ j, k ≤ j ∧ j < k + f ∧ sA N t f k = j + 1 ∧ hasU t (N.getD j n0) = true ∧ ∀ i, k ≤ i → i < j → hasU t (N.getD i n0) = false
  | 0, k => .inl ⟨rfl, fun i h1 h2 => by omega⟩
  | f + 1, k => by
    by_cases c : hasU t (N.getD k n0) = true
    · exact .inr ⟨k, Nat.le_refl _, by omega, by unfold sA; rw [if_pos c], c, fun i h1 h2 => by omega⟩
    · have e : sA N t (f + 1) k = sA N t f (k + 1) := by conv => lhs; unfold sA; rw [if_neg c]
      rw [e]
      have c2 : hasU t (N.getD k n0) = false := by simpa using c
      rcases iH N t f (k + 1) with ⟨h1, h2⟩ | ⟨j, h1, h2, h3, h4, h5⟩
      · refine .inl ⟨h1, fun i a b => ?_⟩
        by_cases e2 : i = k
        · rw [e2]; exact c2
        · exact h2 i (by omega) (by omega)
      · refine .inr ⟨j, by omega, by omega, h3, h4, fun i a b => ?_⟩
        by_cases e2 : i = k
        · rw [e2]; exact c2
        · exact h5 i (by omega) b
theorem hasU_true {t : List Int} {x : NM} : hasU t x = true ↔ x.1 = true ∧ x.2.1 = t := by unfold hasU; rw [Bool.and_eq_true, decide_eq_true_eq]
theorem findN_none {N : List NM} {t : List Int} : fT N t = 0 ↔ ∀ (i : Nat) (x : NM), N[i]? = some x → x.1 = true → x.2.1 ≠ t := by
  constructor
  · intro h i x hx h1 h2
    rcases iH N t N.length 0 with ⟨_, h3⟩ | ⟨j, _, _, h3, _⟩
    · have := h3 i (Nat.zero_le _) (by rw [Nat.zero_add]; exact (List.getElem?_eq_some_iff.1 hx).1)
      rw [dF hx, hasU_true.2 ⟨h1, h2⟩] at this
      cases this
    · unfold fT at h; omega
  · intro h
    rcases iH N t N.length 0 with ⟨h1, _⟩ | ⟨j, _, h2, _, h4, _⟩
    · exact h1
    · have hx : N[j]? = some (N[j]'(by omega)) := List.getElem?_eq_getElem (by omega)
      rw [dF hx] at h4
      obtain ⟨a, b⟩ := hasU_true.1 h4
      exact absurd b (h j _ hx a)
theorem uI {N : List NM} {j : Nat} {x : NM} (hx : N[j]? = some x) (h1 : x.1 = true) (hu : ∀ (i : Nat) (y : NM), N[i]? = some y → y.1 = true → y.2.1 = x.2.1 → i = j) : fT N x.2.1 = j + 1 := by
  rcases iH N x.2.1 N.length 0 with ⟨_, h3⟩ | ⟨q, _, h2, h3, h4, _⟩
  · have := h3 j (Nat.zero_le _) (by rw [Nat.zero_add]; exact (List.getElem?_eq_some_iff.1 hx).1)
    rw [dF hx, hasU_true.2 ⟨h1, rfl⟩] at this
    cases this
  · have hq : N[q]? = some (N[q]'(by omega)) := List.getElem?_eq_getElem (by omega)
    rw [dF hq] at h4
    obtain ⟨a, b⟩ := hasU_true.1 h4
    unfold fT
    rw [h3, hu q _ hq a b]
theorem oB {N : List NM} {t : List Int} (h : fT N t ≠ 0) : ∃ (j : Nat) (x : NM), N[j]? = some x ∧ x.1 = true ∧ x.2.1 = t ∧ fT N t = j + 1 ∧ ∀ (i : Nat) (y : NM), N[i]? = some y → y.1 = true → y.2.1 = t → j ≤ i := by
  rcases iH N t N.length 0 with ⟨h1, _⟩ | ⟨q, _, h2, h3, h4, h5⟩
  · exact absurd h1 h
  · have hq : N[q]? = some (N[q]'(by omega)) := List.getElem?_eq_getElem (by omega)
    rw [dF hq] at h4
    obtain ⟨a, b⟩ := hasU_true.1 h4
    refine ⟨q, _, hq, a, b, h3, fun i y hy c1 c2 => Decidable.by_contra fun hlt => ?_⟩
    have := h5 i (Nat.zero_le _) (by omega)
    rw [dF hy, hasU_true.2 ⟨c1, c2⟩] at this
    cases this
abbrev iN (plus : Bool) (l : List Int) (id : Int) : List Int := if plus then wiT l id else outT l id
def wM (N : List NM) (n : Int) (row : List ST) (plus : Bool) (i : Nat) : Bool :=
  (decide (i = 0) || decide ((row.getD (i - 1) s0).1 < (row.getD i s0).1)) && (isM N (row.getD i s0).2 && ((decide ((row.getD i s0).1 ∈ (dS N n).2.1) != plus) &&
    (decide (((row.getD i s0).1, n) ∈ wA (dS N (row.getD i s0).2) plus) && decide ((dS N (row.getD i s0).2).2.1 = iN plus (dS N n).2.1 (row.getD i s0).1))))
def nJ (N : List NM) (n : Int) (row : List ST) (plus : Bool) : Bool := (List.range row.length).all (wM N n row plus)
theorem sZ {N : List NM} {n : Int} {row : List ST} {plus : Bool} : nJ N n row plus = true ↔ ∀ k, k < row.length → wM N n row plus k = true := by
  unfold nJ
  rw [List.all_eq_true]
  exact ⟨fun h k hk => h k (List.mem_range.2 hk), fun h k hk => h k (List.mem_range.1 hk)⟩
theorem uY {N : List NM} {n : Int} {row : List ST} {plus : Bool} : gH N n row plus = true ↔ ∀ k, k < row.length → oQ N n row plus k = true := by
  unfold gH
  rw [List.all_eq_true]
  exact ⟨fun h k hk => h k (List.mem_range.2 hk), fun h k hk => h k (List.mem_range.1 hk)⟩
def vJ (N : List NM) (i : Nat) : Bool :=
  if (N.getD i n0).1 then dR (N.getD i n0).2.1 && (decide (fT N (N.getD i n0).2.1 = i + 1) && (nJ N ((i : Int) + 1) (N.getD i n0).2.2.1 true && nJ N ((i : Int) + 1) (N.getD i n0).2.2.2 false))
  else decide ((N.getD i n0).2.1.length + (N.getD i n0).2.2.1.length + (N.getD i n0).2.2.2.length = 0)
def headN (N : List NM) : Bool := decide (N.length ≠ 0) && ((dS N N.length).1 && ((dS N 1).1 && decide ((dS N 1).2.1.length = 0)))
def xK (N : List NM) : Bool := headN N && ((List.range N.length).all (vJ N) && decide (fR N ≤ 4000))
abbrev jF (l : List ST) : Prop := l.Pairwise (fun x y => x.1 < y.1)
abbrev lO (N : List NM) (i : Nat) (x : NM) (plus : Bool) (s : ST) : Prop := (s.1 ∈ x.2.1 ↔ plus = false) ∧ ∃ (j : Nat) (y : NM), s.2 = (j : Int) + 1 ∧ N[j]? = some y ∧ y.1 = true ∧ y.2.1 = iN plus x.2.1 s.1 ∧ (s.1, (i : Int) + 1) ∈ wA y plus
structure GR (N : List NM) : Prop where
  last : ∃ x, N[N.length - 1]? = some x ∧ x.1 = true
  first : ∃ x, N[0]? = some x ∧ x.1 = true ∧ x.2.1 = []
  typ : ∀ (i : Nat) (x : NM), N[i]? = some x → x.1 = true → dR x.2.1 = true
  uniq : ∀ (i j : Nat) (x y : NM), N[i]? = some x → N[j]? = some y → x.1 = true → y.1 = true → x.2.1 = y.2.1 → i = j
  un : ∀ (i : Nat) (x : NM), N[i]? = some x → x.1 = false → x = n0
  rise : ∀ (i : Nat) (x : NM), N[i]? = some x → jF x.2.2.1 ∧ jF x.2.2.2
  plus : ∀ (i : Nat) (x : NM), N[i]? = some x → ∀ s ∈ x.2.2.1, lO N i x true s
  less : ∀ (i : Nat) (x : NM), N[i]? = some x → ∀ s ∈ x.2.2.2, lO N i x false s
  many : fR N ≤ 4000
theorem kM {l : List ST} {x : ST} {k : Nat} (h : l[k]? = some x) : l.getD k s0 = x := by rw [List.getD_eq_getElem?_getD, h]; rfl
theorem adjS {l : List ST} (h : ∀ i (hi : i + 1 < l.length), l[i].1 < l[i + 1].1) : jF l := by
  refine List.pairwise_iff_getElem.2 fun i j hi hj hij => ?_
  induction j with
  | zero => omega
  | succ j ih =>
    by_cases e : i = j
    · subst e; exact h i hj
    · exact Int.lt_trans (ih (by omega) (by omega)) (h j hj)
theorem wW {l : List ST} (h : ∀ k, k < l.length → (decide (k = 0) || decide ((l.getD (k - 1) s0).1 < (l.getD k s0).1)) = true) : jF l := adjS fun i hi => by
  have := h (i + 1) hi
  rw [Bool.or_eq_true, decide_eq_true_eq, decide_eq_true_eq] at this
  have h3 := this.resolve_left (by omega)
  rw [Nat.add_sub_cancel, kM (List.getElem?_eq_getElem (by omega)), kM (List.getElem?_eq_getElem hi)] at h3
  exact h3
theorem xH {l : List ST} (h : jF l) {k : Nat} (hk : k < l.length) : (decide (k = 0) || decide ((l.getD (k - 1) s0).1 < (l.getD k s0).1)) = true := by
  by_cases e : k = 0
  · rw [decide_eq_true e]; rfl
  · rw [Bool.or_eq_true, decide_eq_true_eq, decide_eq_true_eq]
    refine .inr ?_
    rw [kM (List.getElem?_eq_getElem (by omega)), kM (List.getElem?_eq_getElem hk)]
    exact List.pairwise_iff_getElem.1 h (k - 1) k (by omega) hk (by omega)
theorem hP {N : List NM} {i : Nat} {x : NM} (hx : N[i]? = some x) {row : List ST} {plus : Bool} : nJ N ((i : Int) + 1) row plus = true ↔ jF row ∧ ∀ s ∈ row, lO N i x plus s := by
  rw [sZ]
  constructor
  · intro h
    refine ⟨wW fun k hk => ?_, fun s hs => ?_⟩
    · have := h k hk
      unfold wM at this
      exact (Bool.and_eq_true _ _ ▸ this : _ ∧ _).1
    · obtain ⟨k, hk⟩ := List.mem_iff_getElem?.1 hs
      have := h k (List.getElem?_eq_some_iff.1 hk).1
      unfold wM at this
      rw [kM hk, dK hx, Bool.and_eq_true, Bool.and_eq_true, Bool.and_eq_true, Bool.and_eq_true, decide_eq_true_eq, decide_eq_true_eq] at this
      obtain ⟨_, h2, h3, h4, h5⟩ := this
      obtain ⟨j, y, e1, e2, e3⟩ := isM_true.1 h2
      rw [e1, dK e2] at h4 h5
      refine ⟨?_, j, y, e1, e2, e3, h5, h4⟩
      by_cases c : s.1 ∈ x.2.1 <;> cases plus <;> simp [c] at h3 ⊢
  · rintro ⟨h1, h2⟩ k hk
    have hs : row[k]? = some row[k] := List.getElem?_eq_getElem hk
    obtain ⟨h3, j, y, e1, e2, e3, h5, h4⟩ := h2 _ (List.getElem_mem hk)
    unfold wM
    rw [xH h1 hk, kM hs, dK hx, isM_true.2 ⟨j, y, e1, e2, e3⟩, e1, dK e2, decide_eq_true h4, decide_eq_true h5]
    by_cases c : row[k].1 ∈ x.2.1 <;> cases plus <;> simp [c] at h3 ⊢
theorem pE {N : List NM} (h : N.length ≠ 0) : dS N N.length = N[N.length - 1]'(by omega) := by
  have := dK (N := N) (k := N.length - 1) (List.getElem?_eq_getElem (by omega))
  rw [show ((N.length - 1 : Nat) : Int) + 1 = N.length by omega] at this
  exact this
theorem nodes_iff {N : List NM} : xK N = true ↔ GR N := by
  constructor
  · intro h
    unfold xK headN at h
    rw [Bool.and_eq_true, Bool.and_eq_true, Bool.and_eq_true, Bool.and_eq_true, Bool.and_eq_true, decide_eq_true_eq, decide_eq_true_eq, decide_eq_true_eq, List.all_eq_true] at h
    obtain ⟨⟨h0, h1, h2, h3⟩, h4, h5⟩ := h
    rw [pE h0] at h1
    have hn0 : N[0]? = some (N[0]'(by omega)) := List.getElem?_eq_getElem (by omega)
    have e1 : dS N 1 = N[0]'(by omega) := dK (k := 0) hn0
    rw [e1] at h2 h3
    have key : ∀ (i : Nat) (x : NM), N[i]? = some x → vJ N i = true := fun i x hx => h4 i (List.mem_range.2 (List.getElem?_eq_some_iff.1 hx).1)
    have yes : ∀ (i : Nat) (x : NM), N[i]? = some x → x.1 = true → dR x.2.1 = true ∧ fT N x.2.1 = i + 1 ∧ nJ N ((i : Int) + 1) x.2.2.1 true = true ∧ nJ N ((i : Int) + 1) x.2.2.2 false = true := by
      intro i x hx hu
      have := key i x hx
      unfold vJ at this
      rw [dF hx, if_pos hu, Bool.and_eq_true, Bool.and_eq_true, Bool.and_eq_true, decide_eq_true_eq] at this
      exact this
    have no : ∀ (i : Nat) (x : NM), N[i]? = some x → x.1 = false → x = n0 := by
      intro i x hx hu
      have := key i x hx
      unfold vJ at this
      rw [dF hx, if_neg (by rw [hu]; decide), decide_eq_true_eq] at this
      obtain ⟨a, b, c, d⟩ := x
      dsimp only at this hu
      rw [List.eq_nil_of_length_eq_zero (show b.length = 0 by omega), List.eq_nil_of_length_eq_zero (show c.length = 0 by omega), List.eq_nil_of_length_eq_zero (show d.length = 0 by omega), hu]
    refine ⟨⟨_, List.getElem?_eq_getElem (by omega), h1⟩, ⟨_, hn0, h2, List.eq_nil_of_length_eq_zero h3⟩, fun i x hx hu => (yes i x hx hu).1, fun i j x y hx hy hu hv e => ?_, no, fun i x hx => ?_, fun i x hx s hs => ?_, fun i x hx s hs => ?_, h5⟩
    · have a := (yes i x hx hu).2.1
      have b := (yes j y hy hv).2.1
      rw [e] at a
      omega
    · cases hu : x.1 with
      | true => exact ⟨((hP hx).1 (yes i x hx hu).2.2.1).1, ((hP hx).1 (yes i x hx hu).2.2.2).1⟩
      | false => rw [no i x hx hu]; exact ⟨List.Pairwise.nil, List.Pairwise.nil⟩
    · cases hu : x.1 with
      | true => exact ((hP hx).1 (yes i x hx hu).2.2.1).2 s hs
      | false => rw [no i x hx hu] at hs; cases hs
    · cases hu : x.1 with
      | true => exact ((hP hx).1 (yes i x hx hu).2.2.2).2 s hs
      | false => rw [no i x hx hu] at hs; cases hs
  · intro g
    obtain ⟨x0, hx0, hu0, ht0⟩ := g.first
    obtain ⟨xl, hxl, hul⟩ := g.last
    have hl0 := (List.getElem?_eq_some_iff.1 hx0).1
    unfold xK headN
    have e1 : dS N 1 = x0 := dK (k := 0) hx0
    have e2 : dS N N.length = xl := by rw [pE (by omega)]; exact (List.getElem?_eq_some_iff.1 hxl).2
    rw [e1, e2, hul, hu0, ht0, decide_eq_true g.many, decide_eq_true (show N.length ≠ 0 by omega)]
    rw [show (List.range N.length).all (vJ N) = true from List.all_eq_true.2 fun i hi => ?_]
    · rfl
    · have hi := List.mem_range.1 hi
      have hx : N[i]? = some N[i] := List.getElem?_eq_getElem hi
      unfold vJ
      rw [dF hx]
      cases hu : N[i].1 with
      | true =>
        rw [if_pos rfl, g.typ i _ hx hu, uI hx hu (fun j y hy hv e => g.uniq j i y _ hy hx hv hu e), (hP hx).2 ⟨(g.rise i _ hx).1, g.plus i _ hx⟩, (hP hx).2 ⟨(g.rise i _ hx).2, g.less i _ hx⟩]
        simp
      | false =>
        rw [if_neg (by decide), g.un i _ hx hu]
        rfl
end Go.Eng
end
section
namespace Go.Eng
open Go.Proofs
set_option linter.unusedSimpArgs false
set_option linter.unusedVariables false
theorem sU {l : List Int} {id : Int} {u : List Int} (hl : dR l = true) (hu : dR u = true) (e : u = wiT l id) : hM l id = 0 ∧ gG l id = u := by
  obtain ⟨h1, h2, h3⟩ := typeB_iff.1 hl
  obtain ⟨g1, g2, g3⟩ := typeB_iff.1 hu
  have hi : insT l id = u := by rw [nX h2, e]
  have hm : mayM id = true := g3 id (by rw [e]; exact wiT_mem.2 (.inl rfl))
  have hc : hM l id = 0 := by unfold hM; rw [if_pos hl, if_pos hm, hi, if_neg (by omega)]
  exact ⟨hc, by unfold gG; rw [if_pos hc, hi]⟩
theorem mR {l : List Int} {id : Int} (hl : dR l = true) (hm : id ∈ l) : outC l id = 0 ∧ outL l id = outT l id := by
  have hc : outC l id = 0 := by unfold outC; rw [if_pos hl, if_pos hm]
  exact ⟨hc, by unfold outL; rw [if_pos hc]⟩
theorem wG {plus : Bool} {l u : List Int} {id : Int} (hl : dR l = true) (hu : dR u = true) (hm : id ∈ l ↔ plus = false) : (wI plus l id = 0 ∧ u = wH plus l id) ↔ u = iN plus l id := by
  cases plus with
  | true =>
    show (hM l id = 0 ∧ u = gG l id) ↔ u = wiT l id
    constructor
    · rintro ⟨h1, h2⟩
      unfold gG at h2
      rw [if_pos h1, nX (typeB_iff.1 hl).2.1] at h2
      exact h2
    · intro e
      obtain ⟨h1, h2⟩ := sU hl hu e
      exact ⟨h1, h2.symm⟩
  | false =>
    show (outC l id = 0 ∧ u = outL l id) ↔ u = outT l id
    obtain ⟨h1, h2⟩ := mR hl (hm.2 rfl)
    rw [h2]
    exact ⟨fun h => h.2, fun h => ⟨h1, h⟩⟩
theorem fI {N : List NM} {i : Nat} {x : NM} (hx : N[i]? = some x) (ht : dR x.2.1 = true) (hall : ∀ (j : Nat) (y : NM), N[j]? = some y → y.1 = true → dR y.2.1 = true) {row : List ST} {plus : Bool} : gH N ((i : Int) + 1) row plus = true ↔ jF row ∧ ∀ s ∈ row, lO N i x plus s := by
  rw [uY]
  have hh : ∀ id, hasT x.2.1 id = decide (id ∈ x.2.1) := fun id => by unfold hasT; rw [ht]; rfl
  constructor
  · intro h
    refine ⟨wW fun k hk => ?_, fun s hs => ?_⟩
    · have := h k hk
      unfold oQ at this
      exact (Bool.and_eq_true _ _ ▸ this : _ ∧ _).1
    · obtain ⟨k, hk⟩ := List.mem_iff_getElem?.1 hs
      have := h k (List.getElem?_eq_some_iff.1 hk).1
      unfold oQ at this
      rw [kM hk, dK hx, Bool.and_eq_true, Bool.and_eq_true, Bool.and_eq_true, Bool.and_eq_true, Bool.and_eq_true, decide_eq_true_eq, decide_eq_true_eq, decide_eq_true_eq, hh] at this
      obtain ⟨_, h2, h3, h4, h5, h6⟩ := this
      obtain ⟨j, y, e1, e2, e3⟩ := isM_true.1 h2
      rw [e1, dK e2] at h5 h6
      have hm : s.1 ∈ x.2.1 ↔ plus = false := by by_cases c : s.1 ∈ x.2.1 <;> cases plus <;> simp [c] at h3 ⊢
      exact ⟨hm, j, y, e1, e2, e3, (wG ht (hall j y e2 e3) hm).1 ⟨h4, h5⟩, h6⟩
  · rintro ⟨h1, h2⟩ k hk
    have hs : row[k]? = some row[k] := List.getElem?_eq_getElem hk
    obtain ⟨h3, j, y, e1, e2, e3, h5, h4⟩ := h2 _ (List.getElem_mem hk)
    obtain ⟨h6, h7⟩ := (wG ht (hall j y e2 e3) h3).2 h5
    unfold oQ
    rw [xH h1 hk, kM hs, dK hx, isM_true.2 ⟨j, y, e1, e2, e3⟩, e1, dK e2, decide_eq_true h4, decide_eq_true h6, decide_eq_true h7, hh]
    by_cases c : row[k].1 ∈ x.2.1 <;> cases plus <;> simp [c] at h3 ⊢
theorem nP {α : Type} [DecidableEq α] : ∀ {l1 l2 : List α}, l1.Pairwise (· ≠ ·) → (∀ x ∈ l1, x ∈ l2) → l2.length ≤ l1.length → l1.Perm l2
  | [], l2, _, _, h => by rw [List.eq_nil_of_length_eq_zero (Nat.le_zero.1 h)]
  | x :: l1, l2, hn, hs, h => by
    obtain ⟨h1, h2⟩ := List.pairwise_cons.1 hn
    have hx := hs x List.mem_cons_self
    have hp := List.perm_cons_erase hx
    have hl := List.length_erase_of_mem hx
    have hpos := List.length_pos_of_mem hx
    rw [List.length_cons] at h
    refine (List.Perm.cons x (nP h2 (fun y hy => ?_) (by omega))).trans hp.symm
    have hy2 := hs y (List.mem_cons_of_mem _ hy)
    rcases List.mem_cons.1 (hp.mem_iff.1 hy2) with e | e
    · exact absurd e.symm (h1 y hy)
    · exact e
theorem jP {N : List NM} (hu : ∀ (i j : Nat) (x y : NM), N[i]? = some x → N[j]? = some y → x.1 = true → y.1 = true → x.2.1 = y.2.1 → i = j) : dY (useE N N.length) := by
  unfold dY useE
  rw [List.pairwise_map]
  refine List.Pairwise.imp_of_mem (fun {a b} ha hb hne e => hne ?_) (uN_nodup N N.length)
  obtain ⟨a1, a2⟩ := mem_uN.1 ha
  obtain ⟨b1, b2⟩ := mem_uN.1 hb
  have hxa : N[a]? = some (N[a]'a1) := List.getElem?_eq_getElem a1
  have hxb : N[b]? = some (N[b]'b1) := List.getElem?_eq_getElem b1
  dsimp only [entAt] at e
  rw [dF hxa] at a2 e
  rw [dF hxb] at b2 e
  exact hu a b _ _ hxa hxb a2 b2 e
theorem pair_inj {N : List NM} {E : List Ent} {i j : Nat} {x y : NM} (h1 : jI E x.2.1 = ((i : Int) + 1, true)) (h2 : jI E y.2.1 = ((j : Int) + 1, true)) (e : x.2.1 = y.2.1) : i = j := by
  rw [e, h2] at h1
  have := congrArg Prod.fst h1
  dsimp only at this
  omega
theorem tM {E : List Ent} {t : List Int} {n : Int} (h : jI E t = (n, true)) : dD E = true ∧ ((1, t, n) : Ent) ∈ allM E := by
  unfold jI at h
  by_cases hc : dD E = true
  · rw [if_pos hc] at h
    by_cases hp : fG E t < 0
    · rw [if_pos hp] at h; cases h
    · rw [if_neg hp] at h
      rcases gS E t with h2 | ⟨q, x, hx, hq, h1, h3⟩
      · omega
      · rw [hq, show ((q : Nat) : Int).toNat = q by omega, fA hx] at h
        have e := congrArg Prod.fst h
        dsimp only at e
        refine ⟨hc, (fH E).mem_iff.2 (List.mem_filter.2 ⟨?_, rfl⟩)⟩
        rw [← e, ← h3, ← h1]
        exact List.mem_of_getElem? hx
  · rw [if_neg hc] at h; cases h
theorem pJ {E : List Ent} (hc : dD E = true) {e : Ent} (he : e ∈ allM E) : jI E e.2.1 = (e.2.2, true) := find_mem hc ((fH E).mem_iff.1 he)
theorem check_iff {N : List NM} {E : List Ent} : eG N E = true ↔ GR N ∧ dD E = true ∧ allM E = fC N := by
  constructor
  · intro h
    unfold eG tG at h
    rw [Bool.and_eq_true, Bool.and_eq_true, Bool.and_eq_true, Bool.and_eq_true, Bool.and_eq_true, Bool.and_eq_true, decide_eq_true_eq, decide_eq_true_eq, decide_eq_true_eq, List.all_eq_true] at h
    obtain ⟨⟨h0, hl, hf, h3, hcE⟩, h4, h5⟩ := h
    obtain ⟨j, xl, ej, hxl, hul⟩ := isM_true.1 hl
    obtain ⟨j0, x0, ej0, hx0, hu0⟩ := isM_true.1 hf
    have ej' : j = N.length - 1 := by omega
    have ej0' : j0 = 0 := by omega
    subst ej' ej0'
    have e1 : dS N 1 = x0 := dK (k := 0) hx0
    rw [e1] at h3
    have key : ∀ (i : Nat) (x : NM), N[i]? = some x → mX N E i = true := fun i x hx => h4 i (List.mem_range.2 (List.getElem?_eq_some_iff.1 hx).1)
    have yes : ∀ (i : Nat) (x : NM), N[i]? = some x → x.1 = true → dR x.2.1 = true ∧ jI E x.2.1 = ((i : Int) + 1, true) ∧ gH N ((i : Int) + 1) x.2.2.1 true = true ∧ gH N ((i : Int) + 1) x.2.2.2 false = true := by
      intro i x hx hu
      have := key i x hx
      unfold mX at this
      rw [dF hx, if_pos hu, Bool.and_eq_true, Bool.and_eq_true, Bool.and_eq_true, decide_eq_true_eq] at this
      exact this
    have no : ∀ (i : Nat) (x : NM), N[i]? = some x → x.1 = false → x = n0 := by
      intro i x hx hu
      have := key i x hx
      unfold mX at this
      rw [dF hx, if_neg (by rw [hu]; decide), decide_eq_true_eq] at this
      obtain ⟨a, b, c, d⟩ := x
      dsimp only at this hu
      rw [List.eq_nil_of_length_eq_zero (show b.length = 0 by omega), List.eq_nil_of_length_eq_zero (show c.length = 0 by omega), List.eq_nil_of_length_eq_zero (show d.length = 0 by omega), hu]
    have hall : ∀ (j : Nat) (y : NM), N[j]? = some y → y.1 = true → dR y.2.1 = true := fun j y hy hu => (yes j y hy hu).1
    have huq : ∀ (i j : Nat) (x y : NM), N[i]? = some x → N[j]? = some y → x.1 = true → y.1 = true → x.2.1 = y.2.1 → i = j := fun i j x y hx hy hu hv e => pair_inj (N := N) (yes i x hx hu).2.1 (yes j y hy hv).2.1 e
    have hE : allF E = allM E := sO hcE
    have hdist := jP huq
    have hsub : ∀ e ∈ useE N N.length, e ∈ allM E := fun e he => by
      obtain ⟨j, x, hx, hu, rfl⟩ := ents_mem.1 ((jK N).mem_iff.2 he)
      exact (tM (yes j x hx hu).2.1).2
    have hlen : (allM E).length ≤ (useE N N.length).length := by
      have : (useE N N.length).length = fR N := by unfold useE; rw [List.length_map, qK]
      rw [this, h5, hE]
      exact Nat.le_refl _
    have hperm : (useE N N.length).Perm (allM E) := nP (hdist.imp fun h e => h (congrArg (fun x => x.2.1) e)) hsub hlen
    refine ⟨⟨⟨xl, hxl, hul⟩, ⟨x0, hx0, hu0, List.eq_nil_of_length_eq_zero h3⟩, hall, huq, no, fun i x hx => ?_, fun i x hx s hs => ?_, fun i x hx s hs => ?_, by rw [h5]; exact allF_le E⟩, hcE, (kQ (eB hcE) ((jK N).trans (hperm.trans (fH E))) (iU N)).symm⟩
    · cases hu : x.1 with
      | true => exact ⟨((fI hx (hall i x hx hu) hall).1 (yes i x hx hu).2.2.1).1, ((fI hx (hall i x hx hu) hall).1 (yes i x hx hu).2.2.2).1⟩
      | false => rw [no i x hx hu]; exact ⟨List.Pairwise.nil, List.Pairwise.nil⟩
    · cases hu : x.1 with
      | true => exact ((fI hx (hall i x hx hu) hall).1 (yes i x hx hu).2.2.1).2 s hs
      | false => rw [no i x hx hu] at hs; cases hs
    · cases hu : x.1 with
      | true => exact ((fI hx (hall i x hx hu) hall).1 (yes i x hx hu).2.2.2).2 s hs
      | false => rw [no i x hx hu] at hs; cases hs
  · rintro ⟨g, hcE, hA⟩
    obtain ⟨x0, hx0, hu0, ht0⟩ := g.first
    obtain ⟨xl, hxl, hul⟩ := g.last
    have hl0 := (List.getElem?_eq_some_iff.1 hx0).1
    have e1 : dS N 1 = x0 := dK (k := 0) hx0
    unfold eG tG
    rw [e1, ht0, hcE, (isM_true.2 ⟨0, x0, rfl, hx0, hu0⟩ : isM N 1 = true), (isM_true.2 ⟨N.length - 1, xl, by omega, hxl, hul⟩ : isM N N.length = true), decide_eq_true (show N.length ≠ 0 by omega), sO hcE, hA, gU, decide_eq_true (rfl : fR N = fR N)]
    rw [show (List.range N.length).all (mX N E) = true from List.all_eq_true.2 fun i hi => ?_]
    · rfl
    · have hi := List.mem_range.1 hi
      have hx : N[i]? = some N[i] := List.getElem?_eq_getElem hi
      unfold mX
      rw [dF hx]
      cases hu : N[i].1 with
      | true =>
        have hm : ((1, N[i].2.1, (i : Int) + 1) : Ent) ∈ allM E := by rw [hA]; exact ents_mem.2 ⟨i, _, hx, hu, rfl⟩
        rw [if_pos rfl, g.typ i _ hx hu, pJ hcE hm, (fI hx (g.typ i _ hx hu) g.typ).2 ⟨(g.rise i _ hx).1, g.plus i _ hx⟩, (fI hx (g.typ i _ hx hu) g.typ).2 ⟨(g.rise i _ hx).2, g.less i _ hx⟩]
        simp
      | false =>
        rw [if_neg (by decide), g.un i _ hx hu]
        rfl
theorem mG {N : List NM} {E : List Ent} (h : eG N E = true) (t : List Int) : jI E t = ((fT N t : Int), decide (fT N t ≠ 0)) := by
  obtain ⟨g, hcE, hA⟩ := check_iff.1 h
  by_cases c : fT N t = 0
  · rw [yD (es := E) (t := t) (fun y hy e => ?_), c, decide_eq_false (by omega)]; rfl
    have hy2 : y ∈ fC N := hA ▸ (fH E).mem_iff.2 hy
    obtain ⟨j, x, hx, hu, rfl⟩ := ents_mem.1 hy2
    exact findN_none.1 c j x hx hu e
  · obtain ⟨j, x, hx, hu, rfl, hj, _⟩ := oB c
    have hm : ((1, x.2.1, (j : Int) + 1) : Ent) ∈ allM E := by rw [hA]; exact ents_mem.2 ⟨j, _, hx, hu, rfl⟩
    rw [pJ hcE hm, hj, decide_eq_true (by omega)]
    rfl
end Go.Eng
end
section
namespace Go.Eng
open Go.Proofs
set_option linter.unusedSimpArgs false
set_option linter.unusedVariables false
theorem jV {α : Type} [DecidableEq α] : ∀ {l1 l2 : List α}, l1.Pairwise (· ≠ ·) → l2.Pairwise (· ≠ ·) → (∀ x, x ∈ l1 ↔ x ∈ l2) → l1.Perm l2
  | [], l2, _, _, h => by
    cases l2 with
    | nil => exact .nil
    | cons y l => exact absurd ((h y).2 List.mem_cons_self) (by simp)
  | x :: l1, l2, h1, h2, h => by
    obtain ⟨a1, a2⟩ := List.pairwise_cons.1 h1
    have hx := (h x).1 List.mem_cons_self
    have hp := List.perm_cons_erase hx
    have h3 : (x :: l2.erase x).Pairwise (· ≠ ·) := (hp.pairwise_iff (fun h => Ne.symm h)).1 h2
    obtain ⟨b1, b2⟩ := List.pairwise_cons.1 h3
    refine (List.Perm.cons x (jV a2 b2 fun y => ?_)).trans hp.symm
    constructor
    · intro hy
      rcases List.mem_cons.1 (hp.mem_iff.1 ((h y).1 (List.mem_cons_of_mem _ hy))) with e | e
      · exact absurd e.symm (a1 y hy)
      · exact e
    · intro hy
      rcases List.mem_cons.1 ((h y).2 (hp.mem_iff.2 (List.mem_cons_of_mem _ hy))) with e | e
      · exact absurd e.symm (b1 y hy)
      · exact e
abbrev lC (N : List NM) : Prop := ∀ (i j : Nat) (x y : NM), N[i]? = some x → N[j]? = some y → x.1 = true → y.1 = true → x.2.1 = y.2.1 → i = j
theorem eK {l : List Ent} (h : dY l) : l.Pairwise (· ≠ ·) := h.imp fun h e => h (congrArg (fun x => x.2.1) e)
theorem dU {N : List NM} (hu : lC N) : dY (fC N) := ((jK N).pairwise_iff (fun h => Ne.symm h)).2 (jP hu)
theorem yY {N : List NM} {E : List Ent} (hc : dD E = true) (hu : lC N) (h : ∀ e, e ∈ E.filter dW ↔ e ∈ fC N) : allM E = fC N :=
  (kQ (eB hc) (jV (eK (dU hu)) (eK (eB hc)) (fun e => (h e).symm)) (iU N)).symm
def eY (N : List NM) : Nat := N.findIdx (fun x => !x.1)
theorem fB (N : List NM) : eY N ≤ N.length := List.findIdx_le_length
theorem freeN_lo {N : List NM} {i : Nat} {x : NM} (hx : N[i]? = some x) (h : i < eY N) : x.1 = true := by
  have h1 := List.not_of_lt_findIdx h
  rw [(List.getElem?_eq_some_iff.1 hx).2] at h1
  simpa using h1
theorem qN {N : List NM} {x : NM} (hx : N[eY N]? = some x) : x.1 = false := by
  have hl := (List.getElem?_eq_some_iff.1 hx).1
  have h1 := List.findIdx_getElem (xs := N) (p := fun (x : NM) => !x.1) (w := hl)
  have h2 : N[N.findIdx (fun (x : NM) => !x.1)]'hl = x := (List.getElem?_eq_some_iff.1 hx).2
  rw [h2] at h1
  simpa using h1
theorem vO {N : List NM} {k : Nat} (hk : k ≤ N.length) (h1 : ∀ (i : Nat) (x : NM), N[i]? = some x → i < k → x.1 = true) (h2 : ∀ x, N[k]? = some x → x.1 = false) : eY N = k := by
  rcases Nat.lt_trichotomy (eY N) k with h | h | h
  · have hx : N[eY N]? = some (N[eY N]'(by omega)) := List.getElem?_eq_getElem (by omega)
    have a := h1 _ _ hx h
    rw [qN hx] at a; cases a
  · exact h
  · have := fB N
    have hx : N[k]? = some (N[k]'(by omega)) := List.getElem?_eq_getElem (by omega)
    have a := freeN_lo hx h
    rw [h2 _ hx] at a; cases a
def setN (N : List NM) (p : Nat) (x : NM) : List NM := if p < N.length then N.set p x else N ++ [x]
theorem gM {N : List NM} {p : Nat} (hp : p ≤ N.length) (x : NM) (i : Nat) : (setN N p x)[i]? = if i = p then some x else N[i]? := by
  unfold setN
  by_cases h : p < N.length
  · rw [if_pos h]
    by_cases e : i = p
    · subst e; rw [if_pos rfl, List.getElem?_set_self h]
    · rw [if_neg e, List.getElem?_set_ne (by omega)]
  · rw [if_neg h]
    by_cases e : i = p
    · subst e; rw [if_pos rfl, List.getElem?_append_right (by omega), show i - N.length = 0 by omega]; rfl
    · rw [if_neg e]
      by_cases c : i < N.length
      · rw [List.getElem?_append_left c]
      · rw [List.getElem?_eq_none (by rw [List.length_append, List.length_singleton]; omega), List.getElem?_eq_none (by omega)]
theorem qE {N : List NM} {p : Nat} (hp : p ≤ N.length) (x : NM) : (setN N p x).length = if p < N.length then N.length else p + 1 := by
  unfold setN
  by_cases h : p < N.length
  · rw [if_pos h, if_pos h, List.length_set]
  · rw [if_neg h, if_neg h, List.length_append, List.length_singleton]; omega
abbrev newN (t : List Int) : NM := (true, t, [], [])
theorem free_pos {N : List NM} (g : GR N) : 1 ≤ eY N := by
  obtain ⟨x, hx, hu, _⟩ := g.first
  refine Decidable.by_contra fun h => ?_
  have e : eY N = 0 := by omega
  have := qN (N := N) (x := x) (by rw [e]; exact hx)
  rw [hu] at this; cases this
theorem kV {N : List NM} {t : List Int} {j : Nat} {y : NM} (hy : N[j]? = some y) (hu : y.1 = true) : (setN N (eY N) (newN t))[j]? = some y := by
  rw [gM (fB N), if_neg]
  · exact hy
  · rintro rfl
    rw [qN hy] at hu; cases hu
theorem qD {N : List NM} {t : List Int} (hu : lC N) (hf : fT N t = 0) : lC (setN N (eY N) (newN t)) := by
  intro i j x y hx hy h1 h2 e
  rw [gM (fB N)] at hx hy
  by_cases ei : i = eY N
  · rw [if_pos ei] at hx
    cases hx
    by_cases ej : j = eY N
    · omega
    · rw [if_neg ej] at hy
      exact absurd e.symm (findN_none.1 hf j y hy h2)
  · rw [if_neg ei] at hx
    by_cases ej : j = eY N
    · rw [if_pos ej] at hy
      cases hy
      exact absurd e (findN_none.1 hf i x hx h1)
    · rw [if_neg ej] at hy
      exact hu i j x y hx hy h1 h2 e
theorem uA {N : List NM} {t : List Int} (e : Ent) : e ∈ fC (setN N (eY N) (newN t)) ↔ e ∈ fC N ∨ e = (1, t, (eY N : Int) + 1) := by
  rw [ents_mem, ents_mem]
  constructor
  · rintro ⟨j, x, hx, h1, rfl⟩
    rw [gM (fB N)] at hx
    by_cases ej : j = eY N
    · rw [if_pos ej] at hx
      cases hx
      rw [ej]; exact .inr rfl
    · rw [if_neg ej] at hx
      exact .inl ⟨j, x, hx, h1, rfl⟩
  · rintro (⟨j, x, hx, h1, rfl⟩ | rfl)
    · exact ⟨j, x, kV hx h1, h1, rfl⟩
    · exact ⟨eY N, newN t, by rw [gM (fB N), if_pos rfl], rfl, rfl⟩
theorem set_many {N : List NM} {t : List Int} (hu : lC N) (hf : fT N t = 0) : fR (setN N (eY N) (newN t)) = fR N + 1 := by
  rw [← gU, ← gU]
  have hn : ((1, t, (eY N : Int) + 1) : Ent) ∉ fC N := fun h => by
    obtain ⟨j, x, hx, h1, e⟩ := ents_mem.1 h
    exact findN_none.1 hf j x hx h1 (congrArg (fun x => x.2.1) e).symm
  have hp : (fC (setN N (eY N) (newN t))).Perm ((1, t, (eY N : Int) + 1) :: fC N) := by
    refine jV (eK (dU (qD hu hf))) (List.pairwise_cons.2 ⟨fun y hy e => hn (e ▸ hy), eK (dU hu)⟩) fun x => ?_
    rw [uA, List.mem_cons]
    exact Or.comm
  rw [hp.length_eq, List.length_cons]
theorem set_GR {N : List NM} {t : List Int} (g : GR N) (ht : dR t = true) (hf : fT N t = 0) (hm : fR N ≠ 4000) : GR (setN N (eY N) (newN t)) := by
  have h1 := free_pos g
  have hle := fB N
  have hget := fun i => gM hle (newN t) i
  have hst : ∀ (i : Nat) (x : NM) (plus : Bool) (s : ST), lO N i x plus s → lO (setN N (eY N) (newN t)) i x plus s := by
    rintro i x plus s ⟨a, j, y, b, c, d, e, f⟩
    exact ⟨a, j, y, b, kV c d, d, e, f⟩
  refine ⟨?_, ?_, fun i x hx hu => ?_, qD g.uniq hf, fun i x hx hu => ?_, fun i x hx => ?_, fun i x hx s hs => ?_, fun i x hx s hs => ?_, by have := g.many; rw [set_many g.uniq hf]; omega⟩
  · obtain ⟨x, hx, hu⟩ := g.last
    have hl := (List.getElem?_eq_some_iff.1 hx).1
    rw [qE hle]
    by_cases c : eY N < N.length
    · rw [if_pos c]; exact ⟨x, kV hx hu, hu⟩
    · rw [if_neg c, Nat.add_sub_cancel, hget, if_pos rfl]; exact ⟨_, rfl, rfl⟩
  · obtain ⟨x, hx, hu, ht⟩ := g.first
    exact ⟨x, kV hx hu, hu, ht⟩
  · rw [hget] at hx
    by_cases e : i = eY N
    · rw [if_pos e] at hx; cases hx; exact ht
    · rw [if_neg e] at hx; exact g.typ i x hx hu
  · rw [hget] at hx
    by_cases e : i = eY N
    · rw [if_pos e] at hx; cases hx; cases hu
    · rw [if_neg e] at hx; exact g.un i x hx hu
  · rw [hget] at hx
    by_cases e : i = eY N
    · rw [if_pos e] at hx; cases hx; exact ⟨List.Pairwise.nil, List.Pairwise.nil⟩
    · rw [if_neg e] at hx; exact g.rise i x hx
  · rw [hget] at hx
    by_cases e : i = eY N
    · rw [if_pos e] at hx; cases hx; cases hs
    · rw [if_neg e] at hx; exact hst _ _ _ _ (g.plus i x hx s hs)
  · rw [hget] at hx
    by_cases e : i = eY N
    · rw [if_pos e] at hx; cases hx; cases hs
    · rw [if_neg e] at hx; exact hst _ _ _ _ (g.less i x hx s hs)
def ofC (N : List NM) (t : List Int) : Int := if dR t then (if fT N t ≠ 0 then 0 else if fR N = 4000 then 6 else 0) else 130
def ofL (N : List NM) (t : List Int) : List NM := if ofC N t = 0 then (if fT N t ≠ 0 then N else setN N (eY N) (newN t)) else []
def ofn (N : List NM) (t : List Int) : Nat := if ofC N t = 0 then (if fT N t ≠ 0 then fT N t else eY N + 1) else 0
theorem qH {N : List NM} {t : List Int} (h : ofC N t = 0) : dR t = true ∧ ((fT N t ≠ 0 ∧ ofL N t = N ∧ ofn N t = fT N t) ∨ (fT N t = 0 ∧ fR N ≠ 4000 ∧ ofL N t = setN N (eY N) (newN t) ∧ ofn N t = eY N + 1)) := by
  have ht : dR t = true := by
    cases c : dR t with
    | true => rfl
    | false => unfold ofC at h; rw [c, if_neg (by decide)] at h; exact absurd h (by decide)
  refine ⟨ht, ?_⟩
  by_cases c : fT N t = 0
  · refine .inr ⟨c, fun e => ?_, ?_, ?_⟩
    · unfold ofC at h; rw [if_pos ht, if_neg (fun h => h c), if_pos e] at h; exact absurd h (by decide)
    · unfold ofL; rw [if_pos h, if_neg (fun h => h c)]
    · unfold ofn; rw [if_pos h, if_neg (fun h => h c)]
  · refine .inl ⟨c, ?_, ?_⟩
    · unfold ofL; rw [if_pos h, if_pos c]
    · unfold ofn; rw [if_pos h, if_pos c]
theorem of_GR {N : List NM} {t : List Int} (g : GR N) (h : ofC N t = 0) : GR (ofL N t) ∧ (∃ x, (ofL N t)[ofn N t - 1]? = some x ∧ x.1 = true ∧ x.2.1 = t) ∧ 1 ≤ ofn N t ∧ ∀ (i : Nat) (x : NM), N[i]? = some x → x.1 = true → (ofL N t)[i]? = some x := by
  obtain ⟨ht, ⟨c, e1, e2⟩ | ⟨c, hm, e1, e2⟩⟩ := qH h
  · obtain ⟨j, x, hx, hu, hxt, hj, _⟩ := oB c
    rw [e1, e2, hj]
    exact ⟨g, ⟨x, hx, hu, hxt⟩, by omega, fun i x hx _ => hx⟩
  · rw [e1, e2, Nat.add_sub_cancel]
    exact ⟨set_GR g ht c hm, ⟨_, by rw [gM (fB N), if_pos rfl], rfl, rfl⟩, by omega, fun i x hx hu => kV hx hu⟩
end Go.Eng
end
section
namespace Go.Eng
open Go.Proofs
set_option linter.unusedSimpArgs false
set_option linter.unusedVariables false
def wiS (l : List ST) (s : ST) : List ST := l.filter (fun x => decide (x.1 < s.1)) ++ s :: l.filter (fun x => decide (s.1 < x.1))
theorem wiS_mem {l : List ST} {s x : ST} : x ∈ wiS l s ↔ x = s ∨ (x ∈ l ∧ x.1 ≠ s.1) := by
  unfold wiS
  rw [List.mem_append, List.mem_cons, List.mem_filter, List.mem_filter, decide_eq_true_eq, decide_eq_true_eq]
  constructor
  · rintro (h | h | h)
    · exact .inr ⟨h.1, by omega⟩
    · exact .inl h
    · exact .inr ⟨h.1, by omega⟩
  · rintro (h | ⟨h, e⟩)
    · exact .inr (.inl h)
    · rcases Int.lt_trichotomy x.1 s.1 with a | a | a
      · exact .inl ⟨h, a⟩
      · exact absurd a e
      · exact .inr (.inr ⟨h, a⟩)
theorem pS {l : List ST} {s : ST} (h : jF l) : jF (wiS l s) := by
  unfold wiS jF
  rw [List.pairwise_append, List.pairwise_cons]
  refine ⟨h.sublist List.filter_sublist, ⟨fun x hx => of_decide_eq_true (List.mem_filter.1 hx).2, h.sublist List.filter_sublist⟩, fun x hx y hy => ?_⟩
  have h1 : x.1 < s.1 := of_decide_eq_true (List.mem_filter.1 hx).2
  rcases List.mem_cons.1 hy with e | e
  · rw [e]; exact h1
  · have h2 : s.1 < y.1 := of_decide_eq_true (List.mem_filter.1 e).2
    omega
theorem pA : ∀ {l1 l2 : List ST}, jF l1 → jF l2 → (∀ x, x ∈ l1 ↔ x ∈ l2) → l1 = l2
  | [], [], _, _, _ => rfl
  | [], y :: ys, _, _, h => absurd ((h y).2 List.mem_cons_self) (by simp)
  | x :: xs, [], _, _, h => absurd ((h x).1 List.mem_cons_self) (by simp)
  | x :: xs, y :: ys, h1, h2, h => by
    rw [jF, List.pairwise_cons] at h1 h2
    have e : x = y := by
      rcases List.mem_cons.1 ((h x).1 List.mem_cons_self) with e | e
      · exact e
      · rcases List.mem_cons.1 ((h y).2 List.mem_cons_self) with e2 | e2
        · exact e2.symm
        · have a1 := h2.1 x e
          have a2 := h1.1 y e2
          omega
    subst e
    congr 1
    refine pA h1.2 h2.2 fun z => ?_
    constructor
    · intro hz
      rcases List.mem_cons.1 ((h z).1 (List.mem_cons_of_mem _ hz)) with e | e
      · have := h1.1 z hz; rw [e] at this; omega
      · exact e
    · intro hz
      rcases List.mem_cons.1 ((h z).2 (List.mem_cons_of_mem _ hz)) with e | e
      · have := h2.1 z hz; rw [e] at this; omega
      · exact e
theorem wX {l : List ST} (h : jF l) {x y : ST} (hx : x ∈ l) (hy : y ∈ l) (e : x.1 = y.1) : x = y := by
  obtain ⟨i, hi⟩ := List.mem_iff_getElem?.1 hx
  obtain ⟨j, hj⟩ := List.mem_iff_getElem?.1 hy
  obtain ⟨hil, hi2⟩ := List.getElem?_eq_some_iff.1 hi
  obtain ⟨hjl, hj2⟩ := List.getElem?_eq_some_iff.1 hj
  rcases Nat.lt_trichotomy i j with c | c | c
  · have := List.pairwise_iff_getElem.1 h i j hil hjl c
    rw [hi2, hj2] at this; omega
  · subst c; rw [hi] at hj; exact Option.some.inj hj
  · have := List.pairwise_iff_getElem.1 h j i hjl hil c
    rw [hi2, hj2] at this; omega
theorem wiS_self {l : List ST} {s : ST} (h : jF l) (hm : s ∈ l) : wiS l s = l := pA (pS h) h fun x => by
  rw [wiS_mem]
  constructor
  · rintro (e | e)
    · rw [e]; exact hm
    · exact e.1
  · intro hx
    by_cases e : x.1 = s.1
    · exact .inl (wX h hx hm e)
    · exact .inr ⟨hx, e⟩
def gT (N : List NM) (lo hi : Nat) (id : Int) : List NM :=
  (N.set hi ((N.getD hi n0).1, (N.getD hi n0).2.1, (N.getD hi n0).2.2.1, wiS (N.getD hi n0).2.2.2 (id, (lo : Int) + 1))).set lo
    ((N.getD lo n0).1, (N.getD lo n0).2.1, wiS (N.getD lo n0).2.2.1 (id, (hi : Int) + 1), (N.getD lo n0).2.2.2)
theorem nT (N : List NM) (lo hi : Nat) (id : Int) : (gT N lo hi id).length = N.length := by unfold gT; rw [List.length_set, List.length_set]
theorem nU {N : List NM} {lo hi : Nat} {id : Int} {a b : NM} (ha : N[hi]? = some a) (hb : N[lo]? = some b) (hne : lo ≠ hi) (i : Nat) :
    (gT N lo hi id)[i]? = if i = lo then some (b.1, b.2.1, wiS b.2.2.1 (id, (hi : Int) + 1), b.2.2.2) else if i = hi then some (a.1, a.2.1, a.2.2.1, wiS a.2.2.2 (id, (lo : Int) + 1)) else N[i]? := by
  have h1 := (List.getElem?_eq_some_iff.1 ha).1
  have h2 := (List.getElem?_eq_some_iff.1 hb).1
  unfold gT
  rw [dF ha, dF hb]
  by_cases e : i = lo
  · rw [if_pos e, e, List.getElem?_set_self (by rw [List.length_set]; exact h2)]
  · rw [if_neg e, List.getElem?_set_ne (by omega)]
    by_cases e2 : i = hi
    · rw [if_pos e2, e2, List.getElem?_set_self h1]
    · rw [if_neg e2, List.getElem?_set_ne (by omega)]
section
variable {N : List NM} {lo hi : Nat} {id : Int} {a b : NM}
theorem mY (ha : N[hi]? = some a) (hb : N[lo]? = some b) (hne : lo ≠ hi) {i : Nat} {x' : NM} (hx : (gT N lo hi id)[i]? = some x') :
    ∃ x, N[i]? = some x ∧ x'.1 = x.1 ∧ x'.2.1 = x.2.1 ∧ (x'.2.2.1 = x.2.2.1 ∨ (i = lo ∧ x = b ∧ x'.2.2.1 = wiS x.2.2.1 (id, (hi : Int) + 1))) ∧ (x'.2.2.2 = x.2.2.2 ∨ (i = hi ∧ x = a ∧ x'.2.2.2 = wiS x.2.2.2 (id, (lo : Int) + 1))) := by
  rw [nU ha hb hne] at hx
  by_cases e : i = lo
  · rw [if_pos e] at hx; cases hx; exact ⟨b, by rw [e]; exact hb, rfl, rfl, .inr ⟨e, rfl, rfl⟩, .inl rfl⟩
  · rw [if_neg e] at hx
    by_cases e2 : i = hi
    · rw [if_pos e2] at hx; cases hx; exact ⟨a, by rw [e2]; exact ha, rfl, rfl, .inl rfl, .inr ⟨e2, rfl, rfl⟩⟩
    · rw [if_neg e2] at hx; exact ⟨x', hx, rfl, rfl, .inl rfl, .inl rfl⟩
theorem link_new (g : GR N) (ha : N[hi]? = some a) (hb : N[lo]? = some b) (hua : a.1 = true) (hub : b.1 = true) (ht : a.2.1 = wiT b.2.1 id) (hn : id ∉ b.2.1) (hne : lo ≠ hi) {i : Nat} {x : NM} (hx : N[i]? = some x) :
    ∃ x', (gT N lo hi id)[i]? = some x' ∧ x'.1 = x.1 ∧ x'.2.1 = x.2.1 ∧ (∀ s ∈ x.2.2.1, s ∈ x'.2.2.1) ∧ (∀ s ∈ x.2.2.2, s ∈ x'.2.2.2) ∧ (i = lo → (id, (hi : Int) + 1) ∈ x'.2.2.1) ∧ (i = hi → (id, (lo : Int) + 1) ∈ x'.2.2.2) := by
  have hbt := (typeB_iff.1 (g.typ lo b hb hub)).2.1
  rw [nU ha hb hne]
  by_cases e : i = lo
  · have hxb : x = b := by rw [e, hb] at hx; exact (Option.some.inj hx).symm
    rw [if_pos e]
    refine ⟨_, rfl, by rw [hxb], by rw [hxb], fun s hs => ?_, fun s hs => by rw [hxb] at hs; exact hs, fun _ => wiS_mem.2 (.inl rfl), fun e2 => absurd (e ▸ e2) hne⟩
    rw [hxb] at hs
    refine wiS_mem.2 ?_
    by_cases c : s.1 = id
    · refine .inl ?_
      obtain ⟨_, j, y, e1, e2, e3, e4, _⟩ := g.plus lo b hb s hs
      have e4 : y.2.1 = wiT b.2.1 s.1 := e4
      have : j = hi := g.uniq j hi y a e2 ha e3 hua (by rw [e4, c, ht])
      rw [this] at e1
      exact Prod.ext c e1
    · exact .inr ⟨hs, c⟩
  · rw [if_neg e]
    by_cases e2 : i = hi
    · have hxa : x = a := by rw [e2, ha] at hx; exact (Option.some.inj hx).symm
      rw [if_pos e2]
      refine ⟨_, rfl, by rw [hxa], by rw [hxa], fun s hs => by rw [hxa] at hs; exact hs, fun s hs => ?_, fun h => absurd h e, fun _ => wiS_mem.2 (.inl rfl)⟩
      rw [hxa] at hs
      refine wiS_mem.2 ?_
      by_cases c : s.1 = id
      · refine .inl ?_
        obtain ⟨_, j, y, e1, e2, e3, e4, _⟩ := g.less hi a ha s hs
        have e4 : y.2.1 = outT a.2.1 s.1 := e4
        have hty := (typeB_iff.1 (g.typ j y e2 e3)).2.1
        have : j = lo := g.uniq j lo y b e2 hb e3 hub (by
          refine iA hty hbt fun z => ?_
          rw [e4, c, ht, outT_mem, wiT_mem]
          constructor
          · rintro ⟨h1 | h1, h2⟩
            · exact absurd h1 h2
            · exact h1
          · intro h
            exact ⟨.inr h, fun h2 => hn (h2 ▸ h)⟩)
        rw [this] at e1
        exact Prod.ext c e1
      · exact .inr ⟨hs, c⟩
    · rw [if_neg e2]
      exact ⟨x, hx, rfl, rfl, fun s hs => hs, fun s hs => hs, fun h => absurd h e, fun h => absurd h e2⟩
theorem out_wi {l : List Int} {id : Int} (h : iO l) (hn : id ∉ l) : outT (wiT l id) id = l := iA (nQ (pR h)) h fun z => by
  rw [outT_mem, wiT_mem]
  constructor
  · rintro ⟨h1 | h1, h2⟩
    · exact absurd h1 h2
    · exact h1
  · intro h
    exact ⟨.inr h, fun h2 => hn (h2 ▸ h)⟩
theorem wi_out {l : List Int} {id : Int} (h : iO l) (hm : id ∈ l) : wiT (outT l id) id = l := iA (pR (nQ h)) h fun z => by
  rw [wiT_mem, outT_mem]
  constructor
  · rintro (h1 | h1)
    · rw [h1]; exact hm
    · exact h1.1
  · intro h
    by_cases c : z = id
    · exact .inl c
    · exact .inr ⟨h, c⟩
theorem rX (ha : N[hi]? = some a) (hb : N[lo]? = some b) (hne : lo ≠ hi) (e : Ent) : e ∈ fC (gT N lo hi id) ↔ e ∈ fC N := by
  rw [ents_mem, ents_mem]
  constructor
  · rintro ⟨j, x', hx, hu, rfl⟩
    obtain ⟨x, h1, h2, h3, _⟩ := mY ha hb hne hx
    exact ⟨j, x, h1, by rw [← h2]; exact hu, by rw [h3]⟩
  · rintro ⟨j, x, hx, hu, rfl⟩
    have : ∃ x', (if j = lo then some (b.1, b.2.1, wiS b.2.2.1 (id, (hi : Int) + 1), b.2.2.2) else if j = hi then some (a.1, a.2.1, a.2.2.1, wiS a.2.2.2 (id, (lo : Int) + 1)) else N[j]?) = some x' ∧ x'.1 = x.1 ∧ x'.2.1 = x.2.1 := by
      by_cases e : j = lo
      · rw [if_pos e]
        have hxb : x = b := by rw [e, hb] at hx; exact (Option.some.inj hx).symm
        exact ⟨_, rfl, by rw [hxb], by rw [hxb]⟩
      · rw [if_neg e]
        by_cases e2 : j = hi
        · rw [if_pos e2]
          have hxa : x = a := by rw [e2, ha] at hx; exact (Option.some.inj hx).symm
          exact ⟨_, rfl, by rw [hxa], by rw [hxa]⟩
        · rw [if_neg e2]; exact ⟨x, hx, rfl, rfl⟩
    obtain ⟨x', h1, h2, h3⟩ := this
    refine ⟨j, x', ?_, by rw [h2]; exact hu, by rw [h3]⟩
    rw [nU ha hb hne]; exact h1
theorem xM (hu : lC N) (ha : N[hi]? = some a) (hb : N[lo]? = some b) (hne : lo ≠ hi) : lC (gT N lo hi id) := by
  intro i j x' y' hx hy h1 h2 e
  obtain ⟨x, a1, a2, a3, _⟩ := mY ha hb hne hx
  obtain ⟨y, b1, b2, b3, _⟩ := mY ha hb hne hy
  exact hu i j x y a1 b1 (by rw [← a2]; exact h1) (by rw [← b2]; exact h2) (by rw [← a3, ← b3]; exact e)
theorem wT {N N' : List NM} (h1 : lC N) (h2 : lC N') (h : ∀ e, e ∈ fC N' ↔ e ∈ fC N) : fR N' = fR N := by
  rw [← gU, ← gU]
  exact (jV (eK (dU h2)) (eK (dU h1)) h).length_eq
theorem wU {N N' : List NM} (h1 : lC N) (h2 : lC N') (h : ∀ e, e ∈ fC N' ↔ e ∈ fC N) : fC N' = fC N :=
  kD (jV (eK (dU h2)) (eK (dU h1)) h) (dU h2) (iU _) (iU _)
theorem link_GR (g : GR N) (ha : N[hi]? = some a) (hb : N[lo]? = some b) (hua : a.1 = true) (hub : b.1 = true) (ht : a.2.1 = wiT b.2.1 id) (hn : id ∉ b.2.1) : lo ≠ hi ∧ GR (gT N lo hi id) ∧ fC (gT N lo hi id) = fC N := by
  have hne : lo ≠ hi := fun e => by
    rw [e, ha] at hb
    cases hb
    exact hn (by rw [ht]; exact wiT_mem.2 (.inl rfl))
  have huq : lC (gT N lo hi id) := xM g.uniq ha hb hne
  have hnew := fun {i : Nat} {x : NM} (hx : N[i]? = some x) => link_new g ha hb hua hub ht hn hne hx
  have hold := fun {i : Nat} {x : NM} (hx : (gT N lo hi id)[i]? = some x) => mY ha hb hne hx
  have hbt := (typeB_iff.1 (g.typ lo b hb hub)).2.1
  have hst : ∀ (i : Nat) (x x' : NM) (plus : Bool) (s : ST), x'.2.1 = x.2.1 → lO N i x plus s → lO (gT N lo hi id) i x' plus s := by
    rintro i x x' plus s e0 ⟨q, j, y, e1, e2, e3, e4, e5⟩
    obtain ⟨y', f1, f2, f3, f4, f5, _⟩ := hnew e2
    refine ⟨by rw [e0]; exact q, j, y', e1, f1, by rw [f2]; exact e3, by rw [f3, e4, e0], ?_⟩
    cases plus with
    | true => exact f5 _ e5
    | false => exact f4 _ e5
  refine ⟨hne, ⟨?_, ?_, fun i x' hx hu => ?_, huq, fun i x' hx hu => ?_, fun i x' hx => ?_, fun i x' hx s hs => ?_, fun i x' hx s hs => ?_, ?_⟩, wU g.uniq huq (rX ha hb hne)⟩
  · obtain ⟨x, hx, hu⟩ := g.last
    obtain ⟨x', f1, f2, _⟩ := hnew hx
    rw [nT]
    exact ⟨x', f1, by rw [f2]; exact hu⟩
  · obtain ⟨x, hx, hu, hxt⟩ := g.first
    obtain ⟨x', f1, f2, f3, _⟩ := hnew hx
    exact ⟨x', f1, by rw [f2]; exact hu, by rw [f3]; exact hxt⟩
  · obtain ⟨x, f1, f2, f3, _⟩ := hold hx
    rw [f3]
    exact g.typ i x f1 (by rw [← f2]; exact hu)
  · obtain ⟨x, f1, f2, f3, f4, f5⟩ := hold hx
    have hx0 := g.un i x f1 (by rw [← f2]; exact hu)
    rcases f4 with f4 | ⟨_, e, _⟩
    · rcases f5 with f5 | ⟨_, e, _⟩
      · obtain ⟨p1, p2, p3, p4⟩ := x'
        dsimp only at f2 f3 f4 f5
        rw [f2, f3, f4, f5, hx0]
      · rw [← e, ← f2, hu] at hua; cases hua
    · rw [← e, ← f2, hu] at hub; cases hub
  · obtain ⟨x, f1, f2, f3, f4, f5⟩ := hold hx
    obtain ⟨r1, r2⟩ := g.rise i x f1
    refine ⟨?_, ?_⟩
    · rcases f4 with f4 | ⟨_, _, f4⟩
      · rw [f4]; exact r1
      · rw [f4]; exact pS r1
    · rcases f5 with f5 | ⟨_, _, f5⟩
      · rw [f5]; exact r2
      · rw [f5]; exact pS r2
  · obtain ⟨x, f1, f2, f3, f4, f5⟩ := hold hx
    rcases f4 with f4 | ⟨ei, eb, f4⟩
    · rw [f4] at hs
      exact hst i x x' true s f3 (g.plus i x f1 s hs)
    · rw [f4] at hs
      rcases wiS_mem.1 hs with e | ⟨e, _⟩
      · obtain ⟨y', g1, g2, g3, _, _, _, g7⟩ := hnew ha
        subst e ei eb
        exact ⟨by rw [f3]; exact ⟨fun h => absurd h hn, fun h => by cases h⟩, hi, y', rfl, g1, by rw [g2]; exact hua, by rw [g3, f3]; exact ht, g7 rfl⟩
      · exact hst i x x' true s f3 (g.plus i x f1 s e)
  · obtain ⟨x, f1, f2, f3, f4, f5⟩ := hold hx
    rcases f5 with f5 | ⟨ei, ea, f5⟩
    · rw [f5] at hs
      exact hst i x x' false s f3 (g.less i x f1 s hs)
    · rw [f5] at hs
      rcases wiS_mem.1 hs with e | ⟨e, _⟩
      · obtain ⟨y', g1, g2, g3, _, _, g6, _⟩ := hnew hb
        subst e ei ea
        refine ⟨by rw [f3, ht]; exact ⟨fun _ => rfl, fun _ => wiT_mem.2 (.inl rfl)⟩, lo, y', rfl, g1, by rw [g2]; exact hub, ?_, g6 rfl⟩
        show y'.2.1 = outT x'.2.1 id
        rw [g3, f3, ht, out_wi hbt hn]
      · exact hst i x x' false s f3 (g.less i x f1 s e)
  · rw [wT g.uniq huq (rX ha hb hne)]; exact g.many
end
abbrev eU (l : List ST) (n : Int) : List ST := l.filter (fun s => !decide (s.2 = n))
def offN (p i : Nat) (x : NM) : NM := if i = p then n0 else (x.1, x.2.1, eU x.2.2.1 ((p : Int) + 1), eU x.2.2.2 ((p : Int) + 1))
def kJ (l : List NM) : Nat → Nat
  | 0 => 0
  | k + 1 => if (l.getD k n0).1 then k + 1 else kJ l k
theorem kY (l : List NM) : ∀ k, kJ l k ≤ k ∧ (∀ i, kJ l k ≤ i → i < k → (l.getD i n0).1 = false) ∧ (kJ l k ≠ 0 → (l.getD (kJ l k - 1) n0).1 = true)
  | 0 => ⟨Nat.le_refl _, fun i h1 h2 => by omega, fun h => absurd rfl h⟩
  | k + 1 => by
    unfold kJ
    by_cases c : (l.getD k n0).1 = true
    · rw [if_pos c]
      exact ⟨Nat.le_refl _, fun i h1 h2 => by omega, fun _ => c⟩
    · rw [if_neg c]
      obtain ⟨h1, h2, h3⟩ := kY l k
      refine ⟨by omega, fun i a b => ?_, h3⟩
      by_cases e : i = k
      · rw [e]; simpa using c
      · exact h2 i a (by omega)
def sY (l : List NM) : List NM := l.take (kJ l l.length)
def jC (N : List NM) (p : Nat) : List NM := sY (N.mapIdx (offN p))
theorem tY {l : List NM} {i : Nat} {x : NM} : (sY l)[i]? = some x → l[i]? = some x ∧ i < kJ l l.length := by
  intro h
  unfold sY at h
  have hl := (List.getElem?_eq_some_iff.1 h).1
  rw [List.length_take] at hl
  rw [List.getElem?_take_of_lt (by omega)] at h
  exact ⟨h, by omega⟩
theorem wJ {l : List NM} {i : Nat} {x : NM} (h : l[i]? = some x) (hu : x.1 = true) : (sY l)[i]? = some x := by
  obtain ⟨h1, h2, _⟩ := kY l l.length
  have hl := (List.getElem?_eq_some_iff.1 h).1
  unfold sY
  rw [List.getElem?_take_of_lt]
  · exact h
  · refine Decidable.by_contra fun hc => ?_
    have := h2 i (by omega) hl
    rw [dF h, hu] at this; cases this
section
variable {N : List NM} {p : Nat} {a : NM}
theorem iW {i : Nat} {x' : NM} (hx : (jC N p)[i]? = some x') : ∃ x, N[i]? = some x ∧ x' = offN p i x := by
  obtain ⟨h1, _⟩ := tY hx
  rw [List.getElem?_mapIdx] at h1
  cases hN : N[i]? with
  | none => rw [hN] at h1; cases h1
  | some x => rw [hN] at h1; cases h1; exact ⟨x, rfl, rfl⟩
theorem nC {i : Nat} {x : NM} (hx : N[i]? = some x) (hi : i ≠ p) (hu : x.1 = true) : (jC N p)[i]? = some (offN p i x) := by
  refine wJ ?_ ?_
  · rw [List.getElem?_mapIdx, hx]; rfl
  · unfold offN; rw [if_neg hi]; exact hu
theorem gC {i : Nat} {x : NM} (hi : i ≠ p) : offN p i x = (x.1, x.2.1, eU x.2.2.1 ((p : Int) + 1), eU x.2.2.2 ((p : Int) + 1)) := if_neg hi
theorem oH (ha : N[p]? = some a) (hua : a.1 = true) (hu : lC N) (e : Ent) : e ∈ fC (jC N p) ↔ e ∈ fC N ∧ e ≠ (1, a.2.1, (p : Int) + 1) := by
  rw [ents_mem, ents_mem]
  constructor
  · rintro ⟨j, x', hx, h1, rfl⟩
    obtain ⟨x, h2, rfl⟩ := iW hx
    by_cases e : j = p
    · rw [e] at h1; unfold offN at h1; rw [if_pos rfl] at h1; cases h1
    · rw [gC e] at h1 ⊢
      refine ⟨⟨j, x, h2, h1, rfl⟩, fun h => e ?_⟩
      have := congrArg (fun x => x.2.2) h
      dsimp only at this
      omega
  · rintro ⟨⟨j, x, hx, h1, rfl⟩, hne⟩
    by_cases e : j = p
    · subst e
      rw [ha] at hx; cases hx
      exact absurd rfl hne
    · exact ⟨j, _, nC hx e h1, by rw [gC e]; exact h1, by rw [gC e]⟩
theorem oG (hu : lC N) : lC (jC N p) := by
  intro i j x' y' hx hy h1 h2 e
  obtain ⟨x, a1, rfl⟩ := iW hx
  obtain ⟨y, b1, rfl⟩ := iW hy
  have ei : i ≠ p := fun c => by rw [c] at h1; unfold offN at h1; rw [if_pos rfl] at h1; cases h1
  have ej : j ≠ p := fun c => by rw [c] at h2; unfold offN at h2; rw [if_pos rfl] at h2; cases h2
  rw [gC ei] at h1 e
  rw [gC ej] at h2 e
  exact hu i j x y a1 b1 h1 h2 e
theorem yL (ha : N[p]? = some a) (hua : a.1 = true) (hu : lC N) : fR N = fR (jC N p) + 1 := by
  rw [← gU, ← gU]
  have hp : (fC N).Perm ((1, a.2.1, (p : Int) + 1) :: fC (jC N p)) := by
    refine jV (eK (dU hu)) (List.pairwise_cons.2 ⟨fun y hy e => ((oH ha hua hu y).1 hy).2 e.symm, eK (dU (oG hu))⟩) fun e => ?_
    rw [List.mem_cons, oH ha hua hu]
    constructor
    · intro h
      by_cases c : e = (1, a.2.1, (p : Int) + 1)
      · exact .inl c
      · exact .inr ⟨h, c⟩
    · rintro (h | h)
      · rw [h]; exact ents_mem.2 ⟨p, a, ha, hua, rfl⟩
      · exact h.1
  rw [hp.length_eq, List.length_cons]
theorem drop_GR (g : GR N) (ha : N[p]? = some a) (hua : a.1 = true) (hp : p ≠ 0) : GR (jC N p) := by
  obtain ⟨x0, hx0, hu0, ht0⟩ := g.first
  have hz : (jC N p)[0]? = some (offN p 0 x0) := nC hx0 (fun e => hp e.symm) hu0
  have hlen := (List.getElem?_eq_some_iff.1 hz).1
  have hdl : (jC N p).length = kJ (N.mapIdx (offN p)) (N.mapIdx (offN p)).length := by
    unfold jC sY
    rw [List.length_take]
    have := (kY (N.mapIdx (offN p)) (N.mapIdx (offN p)).length).1
    omega
  refine ⟨?_, ⟨_, hz, by rw [gC (fun e => hp e.symm)]; exact hu0, by rw [gC (fun e => hp e.symm)]; exact ht0⟩, fun i x' hx hu => ?_, oG g.uniq, fun i x' hx hu => ?_, fun i x' hx => ?_, fun i x' hx s hs => ?_, fun i x' hx s hs => ?_, by have := g.many; have := yL ha hua g.uniq; omega⟩
  · have hk : (jC N p)[(jC N p).length - 1]? = some ((jC N p)[(jC N p).length - 1]'(by omega)) := List.getElem?_eq_getElem (by omega)
    refine ⟨_, hk, ?_⟩
    obtain ⟨_, _, h3⟩ := kY (N.mapIdx (offN p)) (N.mapIdx (offN p)).length
    obtain ⟨h4, _⟩ := tY hk
    rw [← hdl] at h3
    have := h3 (by omega)
    rw [dF h4] at this
    exact this
  · obtain ⟨x, h1, rfl⟩ := iW hx
    have ei : i ≠ p := fun c => by rw [c] at hu; unfold offN at hu; rw [if_pos rfl] at hu; cases hu
    rw [gC ei] at hu ⊢
    exact g.typ i x h1 hu
  · obtain ⟨x, h1, rfl⟩ := iW hx
    by_cases ei : i = p
    · rw [ei]; unfold offN; rw [if_pos rfl]
    · rw [gC ei] at hu ⊢
      rw [g.un i x h1 hu]; rfl
  · obtain ⟨x, h1, rfl⟩ := iW hx
    by_cases ei : i = p
    · rw [ei]; unfold offN; rw [if_pos rfl]; exact ⟨List.Pairwise.nil, List.Pairwise.nil⟩
    · rw [gC ei]
      exact ⟨(g.rise i x h1).1.sublist List.filter_sublist, (g.rise i x h1).2.sublist List.filter_sublist⟩
  · obtain ⟨x, h1, rfl⟩ := iW hx
    by_cases ei : i = p
    · rw [ei] at hs; unfold offN at hs; rw [if_pos rfl] at hs; cases hs
    · rw [gC ei] at hs ⊢
      obtain ⟨s1, s2⟩ := List.mem_filter.1 hs
      obtain ⟨q, j, y, e1, e2, e3, e4, e5⟩ := g.plus i x h1 s s1
      have ej : j ≠ p := fun c => by rw [e1, c] at s2; simp at s2
      refine ⟨q, j, _, e1, nC e2 ej e3, by rw [gC ej]; exact e3, by rw [gC ej]; exact e4, ?_⟩
      rw [gC ej]
      exact List.mem_filter.2 ⟨e5, by simp; omega⟩
  · obtain ⟨x, h1, rfl⟩ := iW hx
    by_cases ei : i = p
    · rw [ei] at hs; unfold offN at hs; rw [if_pos rfl] at hs; cases hs
    · rw [gC ei] at hs ⊢
      obtain ⟨s1, s2⟩ := List.mem_filter.1 hs
      obtain ⟨q, j, y, e1, e2, e3, e4, e5⟩ := g.less i x h1 s s1
      have ej : j ≠ p := fun c => by rw [e1, c] at s2; simp at s2
      refine ⟨q, j, _, e1, nC e2 ej e3, by rw [gC ej]; exact e3, by rw [gC ej]; exact e4, ?_⟩
      rw [gC ej]
      exact List.mem_filter.2 ⟨e5, by simp; omega⟩
end
end Go.Eng
end
section
namespace Go.Eng
open Go.Proofs
set_option linter.unusedSimpArgs false
set_option linter.unusedVariables false
def goC (N : List NM) (n : Int) (id : Int) (plus : Bool) : Int :=
  if isM N n then
    (if plus then (if mayM id then (if id ∈ (dS N n).2.1 then 0 else if (dS N n).2.1.length = 12 then 6 else ofC N (wiT (dS N n).2.1 id)) else 2)
    else (if id ∈ (dS N n).2.1 then ofC N (outT (dS N n).2.1 id) else 4))
  else 2
def mW (N : List NM) (n : Int) (id : Int) (plus : Bool) : Bool := plus && decide (id ∈ (dS N n).2.1)
def goT (N : List NM) (n : Int) (id : Int) (plus : Bool) : List Int := iN plus (dS N n).2.1 id
def goQ (N : List NM) (n : Int) (id : Int) (plus : Bool) : Nat := ofn N (goT N n id plus)
def goL (N : List NM) (n : Int) (id : Int) (plus : Bool) : List NM :=
  if goC N n id plus = 0 then (if mW N n id plus then N else
    if plus then gT (ofL N (goT N n id plus)) (n - 1).toNat (goQ N n id plus - 1) id else gT (ofL N (goT N n id plus)) (goQ N n id plus - 1) (n - 1).toNat id) else []
def gon (N : List NM) (n : Int) (id : Int) (plus : Bool) : Int := if goC N n id plus = 0 then (if mW N n id plus then n else (goQ N n id plus : Int)) else 0
structure Gone (N : List NM) (n id : Int) (plus : Bool) (p q : Nat) (x y : NM) : Prop where
  np : n = (p : Int) + 1
  hx : N[p]? = some x
  xu : x.1 = true
  oc : ofC N (iN plus x.2.1 id) = 0
  hq : ofn N (iN plus x.2.1 id) = q + 1
  hp' : (ofL N (iN plus x.2.1 id))[p]? = some x
  hy : (ofL N (iN plus x.2.1 id))[q]? = some y
  yu : y.1 = true
  yt : y.2.1 = iN plus x.2.1 id
  gr : GR (ofL N (iN plus x.2.1 id))
  mem : id ∈ x.2.1 ↔ plus = false
theorem qM {N : List NM} {n id : Int} {plus : Bool} (g : GR N) (h : goC N n id plus = 0) :
    (mW N n id plus = true ∧ plus = true ∧ mayM id = true ∧ ∃ (p : Nat) (x : NM), n = (p : Int) + 1 ∧ N[p]? = some x ∧ x.1 = true ∧ id ∈ x.2.1) ∨
    (mW N n id plus = false ∧ ∃ p q x y, Gone N n id plus p q x y) := by
  unfold goC at h
  cases hi : isM N n with
  | false => rw [hi, if_neg (by decide)] at h; exact absurd h (by decide)
  | true =>
    rw [hi, if_pos rfl] at h
    obtain ⟨p, x, hn, hx, hu⟩ := isM_true.1 hi
    have hnd : dS N n = x := by rw [hn]; exact dK hx
    rw [hnd] at h
    unfold mW
    rw [hnd]
    have fin : ∀ (hm : id ∈ x.2.1 ↔ plus = false), ofC N (iN plus x.2.1 id) = 0 → ∃ p q x y, Gone N n id plus p q x y := by
      intro hm ho
      obtain ⟨g2, ⟨y, hy, hyu, hyt⟩, h1, hold⟩ := of_GR g ho
      exact ⟨p, ofn N (iN plus x.2.1 id) - 1, x, y, hn, hx, hu, ho, by omega, hold p x hx hu, hy, hyu, hyt, g2, hm⟩
    cases plus with
    | true =>
      rw [if_pos rfl] at h
      cases hm : mayM id with
      | false => rw [hm, if_neg (by decide)] at h; exact absurd h (by decide)
      | true =>
        rw [hm, if_pos rfl] at h
        by_cases c : id ∈ x.2.1
        · exact .inl ⟨by rw [decide_eq_true c]; rfl, rfl, rfl, p, x, hn, hx, hu, c⟩
        · rw [if_neg c] at h
          by_cases c2 : x.2.1.length = 12
          · rw [if_pos c2] at h; exact absurd h (by decide)
          · rw [if_neg c2] at h
            exact .inr ⟨by rw [decide_eq_false c]; rfl, fin ⟨fun h => absurd h c, fun h => by cases h⟩ h⟩
    | false =>
      rw [if_neg (by decide)] at h
      by_cases c : id ∈ x.2.1
      · rw [if_pos c] at h
        exact .inr ⟨rfl, fin ⟨fun _ => rfl, fun _ => c⟩ h⟩
      · rw [if_neg c] at h; exact absurd h (by decide)
section
variable {N : List NM} {n id : Int} {plus : Bool} {p q : Nat} {x y : NM}
abbrev loP (plus : Bool) (p q : Nat) : Nat := if plus then p else q
abbrev hiP (plus : Bool) (p q : Nat) : Nat := if plus then q else p
abbrev loX (plus : Bool) (x y : NM) : NM := if plus then x else y
abbrev hiX (plus : Bool) (x y : NM) : NM := if plus then y else x
theorem Gone.link (h : Gone N n id plus p q x y) (g : GR N) :
    (ofL N (iN plus x.2.1 id))[hiP plus p q]? = some (hiX plus x y) ∧ (ofL N (iN plus x.2.1 id))[loP plus p q]? = some (loX plus x y) ∧ (hiX plus x y).1 = true ∧ (loX plus x y).1 = true ∧ (hiX plus x y).2.1 = wiT (loX plus x y).2.1 id ∧ id ∉ (loX plus x y).2.1 := by
  have hr := (typeB_iff.1 (g.typ p x h.hx h.xu)).2.1
  cases plus with
  | true => exact ⟨h.hy, h.hp', h.yu, h.xu, h.yt, fun c => by have := h.mem.1 c; cases this⟩
  | false =>
    have e : y.2.1 = outT x.2.1 id := h.yt
    refine ⟨h.hp', h.hy, h.xu, h.yu, ?_, fun c => ?_⟩
    · show x.2.1 = wiT y.2.1 id
      rw [e, wi_out hr (h.mem.2 rfl)]
    · have c : id ∈ y.2.1 := c
      rw [e, outT_mem] at c
      exact c.2 rfl
theorem Gone.goL (h : Gone N n id plus p q x y) (hc : goC N n id plus = 0) (hs : mW N n id plus = false) : Eng.goL N n id plus = gT (ofL N (iN plus x.2.1 id)) (loP plus p q) (hiP plus p q) id ∧ Eng.gon N n id plus = (q : Int) + 1 := by
  have hnd : dS N n = x := by rw [h.np]; exact dK h.hx
  have hT : goT N n id plus = iN plus x.2.1 id := by unfold goT; rw [hnd]
  have hQ : goQ N n id plus = q + 1 := by unfold goQ; rw [hT, h.hq]
  have e1 : (n - 1).toNat = p := by rw [h.np]; omega
  refine ⟨?_, ?_⟩
  · unfold Eng.goL
    rw [if_pos hc, hs, if_neg (by decide), hT, hQ, e1, Nat.add_sub_cancel]
    cases plus <;> rfl
  · unfold gon
    rw [if_pos hc, hs, if_neg (by decide), hQ]; omega
theorem Gone.facts (h : Gone N n id plus p q x y) (g : GR N) : loP plus p q ≠ hiP plus p q ∧ GR (gT (ofL N (iN plus x.2.1 id)) (loP plus p q) (hiP plus p q) id) ∧ fC (gT (ofL N (iN plus x.2.1 id)) (loP plus p q) (hiP plus p q) id) = fC (ofL N (iN plus x.2.1 id)) := by
  obtain ⟨h1, h2, h3, h4, h5, h6⟩ := h.link g
  exact link_GR h.gr h1 h2 h3 h4 h5 h6
end
theorem go_GR {N : List NM} {n id : Int} {plus : Bool} (g : GR N) (h : goC N n id plus = 0) : GR (goL N n id plus) := by
  rcases qM g h with ⟨hs, _⟩ | ⟨hs, p, q, x, y, hg⟩
  · unfold goL; rw [if_pos h, if_pos hs]; exact g
  · rw [(hg.goL h hs).1]; exact (hg.facts g).2.1
end Go.Eng
end
section
namespace Go.Eng
open Go.RowKit
section
variable {P : Program} {f : FuncId} {ro : Option Nat} {n : Nat} {R : Value → World → Prop} {k : List Item} {ds : List Deferred} {env env0 : Env} {w0 w w' : World} {F : Nat → Prop}
variable {ops : Array Oper} {C : List HP}
theorem lG {u v : Value} {w w' : World} (h : Is u w v w') : v = u ∧ w' = w := h
theorem gR {a : Option Addr} {n c e sz k : Nat} {xs : List Value} (h : dN a k) : (Row a n c e sz xs).foot k := h
theorem J_drawW {id : Nat} (T : List Nat) (σ : List (Nat × Nat)) (τ : List Nat) {R0 : HP} (hs : St w0 F w (R0 :: C)) (hm : P.follows .mixedOrders = true) (hT : kB ops T = true) (hN : fP ops T = true) (hp : gJ ops.size T σ τ [] [] = true) (hlt : (eP σ ++ τ).all (fun i => Nat.blt i ops.size) = true) (hdst : ops.toList.all (lW n) = true)
    (hk : ∀ N, N = w.heap.size → JX P f ro n R ops T w0 F (fun k => R0.foot k ∨ N ≤ k) N C [] σ τ [] env k ds env (R0 :: C)) : J P f ro n R (.code (.region id ops true) :: k) ds env w :=
  rJ T σ τ hs ⟨fun k hk hnF h => by
      rcases h with h | h
      · have := (hs.foot _ List.mem_cons_self k h).2.resolve_left hnF; omega
      · have := hs.frm.size; omega,
    fun c hc k hk h => by
      rcases h with h | h
      · exact (List.pairwise_cons.1 hs.sep).1 c hc k h hk
      · have := (hs.foot c (List.mem_cons_of_mem _ hc) k hk).1; omega,
    hs.sub (List.sublist_cons_self _ _), Nat.le_refl _⟩ hm hT hN hp hlt hdst (hk _ rfl)
theorem zJ {id : Nat} (T : List Nat) (σ : List (Nat × Nat)) (τ : List Nat) (A C0 : List HP) (hs : St w0 F w C) (hC : A ++ C0 = C) (hm : P.follows .mixedOrders = true) (hT : kB ops T = true) (hN : fP ops T = true) (hp : gJ ops.size T σ τ [] [] = true) (hlt : (eP σ ++ τ).all (fun i => Nat.blt i ops.size) = true) (hdst : ops.toList.all (lW n) = true)
    (hk : ∀ Z : Nat → Prop, (∀ k, Z k ↔ ((F k ∨ w0.heap.size ≤ k) ∧ ∀ c ∈ C0, ¬ c.foot k)) → JX P f ro n R ops T w0 F Z 0 C0 [] σ τ [] env k ds env C) : J P f ro n R (.code (.region id ops true) :: k) ds env w :=
  rJ T σ τ hs ⟨fun k hk hnF h => by
      rcases h.1 with h | h
      · exact hnF h
      · omega,
    fun c hc k hk h => h.2 c hc hk,
    hs.sub (by rw [← hC]; exact List.sublist_append_right _ _), Nat.zero_le _⟩ hm hT hN hp hlt hdst (hk _ (fun _ => Iff.rfl))
theorem St.zfoot {Z : Nat → Prop} {A C0 : List HP} (hs : St w0 F w (A ++ C0)) (hZ : ∀ k, Z k ↔ ((F k ∨ w0.heap.size ≤ k) ∧ ∀ c ∈ C0, ¬ c.foot k)) : ∀ k, (Star A).foot k → Z k := fun k ⟨c, hc, hk⟩ =>
  (hZ k).2 ⟨(hs.foot c (List.mem_append_left _ hc) k hk).2, fun d hd hkd => (List.pairwise_append.1 hs.sep).2.2 c hc d hd k hk hkd⟩
theorem St.rlV {Z : Nat → Prop} {A C0 : List HP} {W : World} (hs : St w0 F w (A ++ C0)) (hZ : ∀ k, Z k ↔ ((F k ∨ w0.heap.size ≤ k) ∧ ∀ c ∈ C0, ¬ c.foot k)) (hr : Rl Z w W) : St w0 F W C0 :=
  (ZOk.rl (w0 := w0) (F := F) (Z := Z) (N0 := 0) (C0 := C0) ⟨fun k hk hnF h => by
      rcases ((hZ k).1 h).1 with h | h
      · exact hnF h
      · omega,
    fun c hc k hk h => ((hZ k).1 h).2 c hc hk, hs.sub (List.sublist_append_right _ _), Nat.zero_le _⟩ hr).st
variable {T : List Nat} {X : Nat → Prop} {σ : List (Nat × Bool)} {τ : List Nat} {D : List (Nat × Value)}
theorem gY (l : List Nat) (hne : (σ.map (·.1) ++ τ).isEmpty = false) (hl : cand ops.size T (σ.map (·.1) ++ τ) (D.map (·.1)) = l) (h : AllL (JDH P f ro n R ops T X σ τ D env0 k ds env w) l) : JD P f ro n R ops T X σ τ D env0 k ds env w := JD_any hne (by rw [hl]; exact h)
variable {op : Op} {ty : TypeId} {pos : String} {af : Array Edge}
theorem kU {i t : Nat} {S : Value → World → Prop} (σ' : List (Nat × Bool)) (hσ : σ.filter (fun x => x.1 != i) = σ') (hp' : planOk ops.size T σ' τ (i :: D.map (·.1)) = true) (hm1 : (σ.map (·.1) ++ τ).all (fun x => x == i || (σ'.map (·.1) ++ τ).contains x) = true)
    (hm2 : (σ'.map (·.1) ++ τ).all (fun x => x != i && (σ.map (·.1) ++ τ).contains x) = true) (ho : ops[i]? = some ⟨some t, op, ty, pos, af, none⟩) (hnd : cU op = true) (h : OpR P env ⟨some t, op, ty, pos, af, none⟩ w S) (hS : ∀ v w', S v w' → Rl X w w')
    (hk : ∀ v w', S v w' → JD P f ro n R ops T X σ' τ ((i, v) :: D) env0 k ds ((t, v) :: env) w') : JDH P f ro n R ops T X σ τ D env0 k ds env w i := by
  subst hσ; exact uT hp' hm1 hm2 ho (iY rfl h) hS hnd hk
theorem zO {i : Nat} {S : Value → World → Prop} (σ' : List (Nat × Bool)) (hσ : σ.filter (fun x => x.1 != i) = σ') (hp' : planOk ops.size T σ' τ (i :: D.map (·.1)) = true) (hm1 : (σ.map (·.1) ++ τ).all (fun x => x == i || (σ'.map (·.1) ++ τ).contains x) = true)
    (hm2 : (σ'.map (·.1) ++ τ).all (fun x => x != i && (σ.map (·.1) ++ τ).contains x) = true) (ho : ops[i]? = some ⟨none, op, ty, pos, af, none⟩) (hnd : cU op = true) (h : OpR P env ⟨none, op, ty, pos, af, none⟩ w S) (hS : ∀ v w', S v w' → Rl X w w')
    (hk : ∀ v w', S v w' → JD P f ro n R ops T X σ' τ ((i, v) :: D) env0 k ds env w') : JDH P f ro n R ops T X σ τ D env0 k ds env w i := by
  subst hσ; exact uT hp' hm1 hm2 ho (iY rfl h) hS hnd hk
end
end Go.Eng
end
section
namespace Go.Eng
open Go.Proofs
set_option linter.unusedSimpArgs false
set_option linter.unusedVariables false
theorem qP (rs : List RNd) : (encL cNd rs).length = rs.length * 4 := eW (d := dRNd) rs
theorem encE_len (rs : List REnt) : (encL cR rs).length = rs.length * 3 := eW (d := fL) rs
abbrev LMax (E : List Ent) : Prop := ∀ x ∈ E, x.2.1.length ≤ 1000000
theorem yH (rs : List RNd) (k : Nat) (r : RNd) (a : Option Addr) (m c : Nat) (hr : rs[k]? = some r) : bQ (encL cNd rs) (k * 4 + 1) [.slice a m c] = encL cNd (rs.set k (r.1, (a, m, c), r.2.2)) := oF (d := dRNd) rs k 1 r _ _ hr (by show 1 + 1 ≤ 4; omega) rfl
theorem oD (rs : List RNd) (k : Nat) (r : RNd) (a : Option Addr) (m c : Nat) (hr : rs[k]? = some r) : bQ (encL cNd rs) (k * 4 + 2) [.slice a m c] = encL cNd (rs.set k (r.1, r.2.1, (a, m, c), r.2.2.2)) := oF (d := dRNd) rs k 2 r _ _ hr (by show 2 + 1 ≤ 4; omega) rfl
theorem oC (rs : List RNd) (k : Nat) (r : RNd) (a : Option Addr) (m c : Nat) (hr : rs[k]? = some r) : bQ (encL cNd rs) (k * 4 + 3) [.slice a m c] = encL cNd (rs.set k (r.1, r.2.1, r.2.2.1, (a, m, c))) := oF (d := dRNd) rs k 3 r _ _ hr (by show 3 + 1 ≤ 4; omega) rfl
theorem yB {α : Type} {l1 l2 : List α} {k : Nat} {r : α} (h : l1.length = k) (hr : l2[k]? = some r) : (l1 ++ l2.drop k)[k]? = some r := by rw [List.getElem?_append_right (by omega), h, Nat.sub_self, List.getElem?_drop, Nat.add_zero]; exact hr
theorem nm_eq {x y : NM} : x = y ↔ x.1 = y.1 ∧ x.2.1 = y.2.1 ∧ x.2.2.1 = y.2.2.1 ∧ x.2.2.2 = y.2.2.2 := by
  obtain ⟨a, b, c, d⟩ := x
  obtain ⟨a2, b2, c2, d2⟩ := y
  simp
theorem u64_encI (xs : List Int) : rN xs = encL cId xs := (uK xs).symm
attribute [local irreducible] Hold J JL JD JX JXat OpR OpG Ret RetV Is Blk Row
set_option maxRecDepth 100000
set_option maxHeartbeats 2000000
theorem yR (w : World) (a : Option Addr) (n c : Nat) (rs : List RNd) (h : Sl dRNd All w a n c rs) (hn : n ≤ 1000000) :
    Ret Tryz.prog 178 #[.slice a n c] w fun v w' => ∃ a', v = .slice a' n n ∧ Fresh w w' [TabN a' n n rs] := by
  refine cG (l := [_]) Tryz.func178 rfl Tryz.ntmps178 (by simp) ?_
  have hs := St.init w
  obtain ⟨hsrc, hpl, _⟩ := h.srcF
  have hl := h.len
  have hE0 : (encL cNd rs).length = n * 4 := by rw [qP, hl]
  repeat' (first | ((apply aL (t := 6); refine JL_o (by apply eZ; exact iX hs rfl rfl (by omega) (by omega)) rfl rfl ?_; rintro _ _ ⟨b8, rfl, hb8, hs, hE⟩; have hs := hs.toRow 0 n n 4 (Nat.le_refl _) (by unfold maxLen; omega) (by simp [madeCells]) rfl)) | ((apply aL (t := 9); refine JL_o (by apply fW; exact fY (sz := 4) (off := 0) (vs := encL cNd rs) (a := some ⟨b8, 0, none⟩) (n := n) (c := n) (by omega) hs rfl rfl (fun _ => rfl) (by omega) (by rw [Nat.min_self]; exact Src.st hsrc hs) (by rw [Nat.min_self]; exact hpl)) rfl rfl ?_; rintro _ _ ⟨rfl, hs, hF⟩; rw [iF 4 (by rw [hE0]; simp [madeCells])] at hs)) | (apply aR) | ((apply aI); (first | (apply aQ; exact aH rfl aA) | (apply aF; exact aB rfl aA) | (apply bL; exact bY rfl aA)); first | (exact rfl; exact rfl) | exact rfl) | (apply bB) | (apply aG))
  refine aY Tryz.func178 rfl (.tmp rfl .nil) ⟨_, rfl, hs.out (List.Sublist.refl _)⟩
theorem yS (w : World) (a : Option Addr) (n c : Nat) (rs : List REnt) (h : Sl fL All w a n c rs) (hn : n ≤ 1048576) :
    Ret Tryz.prog 179 #[.slice a n c] w fun v w' => ∃ a', v = .slice a' n n ∧ Fresh w w' [dH a' n n rs] := by
  refine cG (l := [_]) Tryz.func179 rfl Tryz.ntmps179 (by simp) ?_
  have hs := St.init w
  obtain ⟨hsrc, hpl, _⟩ := h.srcF
  have hl := h.len
  have hE0 : (encL cR rs).length = n * 3 := by rw [encE_len, hl]
  repeat' (first | ((apply aL (t := 6); refine JL_o (by apply eZ; exact iX hs rfl rfl (by omega) (by omega)) rfl rfl ?_; rintro _ _ ⟨b8, rfl, hb8, hs, hE⟩; have hs := hs.toRow 0 n n 3 (Nat.le_refl _) (by unfold maxLen; omega) (by simp [madeCells]) rfl)) | ((apply aL (t := 9); refine JL_o (by apply fW; exact fY (sz := 3) (off := 0) (vs := encL cR rs) (a := some ⟨b8, 0, none⟩) (n := n) (c := n) (by omega) hs rfl rfl (fun _ => rfl) (by omega) (by rw [Nat.min_self]; exact Src.st hsrc hs) (by rw [Nat.min_self]; exact hpl)) rfl rfl ?_; rintro _ _ ⟨rfl, hs, hF⟩; rw [iF 3 (by rw [hE0]; simp [madeCells])] at hs)) | (apply aR) | ((apply aI); (first | (apply aQ; exact aH rfl aA) | (apply aF; exact aB rfl aA) | (apply bL; exact bY rfl aA)); first | (exact rfl; exact rfl) | exact rfl) | (apply bB) | (apply aG))
  refine aY Tryz.func179 rfl (.tmp rfl .nil) ⟨_, rfl, hs.out (List.Sublist.refl _)⟩
-- WROW 107 5 : [1, 0, 2, 3, 4, 5]
theorem rZ (w : World) (a a2 : Option Addr) (n c n2 c2 : Nat) (N : List NM) (E : List Ent) (h : Sl jD All w a n c N) (hE0 : Sl dEnt All w a2 n2 c2 E) (hn : n ≤ 1000000) (hn2 : n2 ≤ 1048576) (hz : szN N) (hze : LMax E) :
    Ret Tryz.prog 107 #[.agg #[.slice a n c, .slice a2 n2 c2]] w fun v w' => ∃ (qs : List QN) (rs' : List REnt) (a' a2' : Option Addr), (qs.map iG = N ∧ ∀ q ∈ qs, okN q) ∧ v = .agg #[.slice a' n n, .slice a2' n2 n2] ∧ Fresh w w' [TabN a' n n (qs.map rawN), OwnN qs, dH a2' n2 n2 rs', Own rs' E] := by
  refine cG (l := [_]) Tryz.func107 rfl Tryz.ntmps107 (by simp) ?_
  have hs := St.init w
  have hl := h.len
  have hl2 := hE0.len
  have hNo := wR h
  have hEo := qC hE0
  obtain ⟨rs, hr, hm⟩ := Sl.raw (D := nN) h
  obtain ⟨re, hre, hme⟩ := Sl.raw (D := lR) hE0
  have hlr := hr.len
  have hlre := hre.len
  repeat' (first | ((apply ax_c; apply kT 178; exact rfl; (intro W X hN hs; exact aC en178 rfl (yR _ a n c rs (hr.st hs) hn)); (rintro _ _ _ _ ⟨a1, rfl, hf⟩; first | exact hE | exact Fresh.ext hf); rintro W X _ _ hN hs ⟨a1, rfl, hf⟩; have hs := hs.fresh hf; (try simp only [zcc] at hs); refine JX.at hs ?_)) | ((apply ax_c; apply kT 179; exact rfl; (intro W X hN hs; exact aC en179 rfl (yS _ a2 n2 c2 re (hre.st hs) hn2)); (rintro _ _ _ _ ⟨a3, rfl, hf⟩; first | exact hE | exact Fresh.ext hf); rintro W X _ _ hN hs ⟨a3, rfl, hf⟩; have hs := hs.fresh hf; (try simp only [zcc] at hs); refine JX.at hs ?_)) | (apply aR) | ((first | (apply aI) | (apply JX_f; exact rfl; intro W X hs)); (first | (apply aQ; exact aH rfl aA) | (apply aT; first | exact aP rfl rfl aA | exact bP rfl rfl aA) | (apply aV; exact aU hs rfl rfl aA) | (apply bL; exact bY rfl aA)); first | (exact rfl; exact rfl) | exact rfl) | (apply bB) | (apply aG) | (apply bC) | (apply aL (t := 1); refine JL_o (by apply cD; exact bG hs rfl) rfl rfl ?_; rintro _ _ ⟨b1, rfl, hb1, hs, hE⟩) | (apply aL (t := 2); refine JL_o (by apply bE; exact aX hs) rfl rfl ?_; rintro _ _ ⟨b2, rfl, hb2, hs, hE⟩) | (apply bH; refine JL_u (by apply bA; exact aZ hs rfl rfl rfl) rfl ?_; rintro _ _ ⟨hs, hF⟩) | (apply dB; (refine dE (id := 1) [0, 1, 3, 0, 8, 24, 63, 63, 255, 511, 1023, 2047] [(0, 0), (1, 0), (3, 0), (4, 0), (5, 0), (2, 1), (7, 0), (6, 1)] [8, 9, 10, 11] hs eI (by kernel_rfl) (by kernel_rfl) (by kernel_rfl) (by kernel_rfl) (by kernel_rfl) ?_)) | (refine dA (fun W hs => ?_)) | (apply fS; case' hos => (simp only [List.map_cons, List.map_nil, List.getElem?_toArray, List.getElem?_cons_succ, List.getElem?_cons_zero]; repeat' (first | exact gZ | apply fQ))))
  have hs := hs.nilN
  refine dG (α := Nat × List QN) [(1, _), (2, _), (18, _), (19, _)] (fun g => [(20, .int .i64 g.1)]) (fun g w' => St w NoF w' [TabN a1 n n (g.2.map rawN ++ rs.drop g.1), OwnN g.2, dH a3 n2 n2 re, Blk b2 (.cells #[.slice none 0 0, .slice none 0 0] 57 (0, 0)), Blk b1 (.cells #[.slice a1 n n, .slice a3 n2 n2] 57 (0, 0))] ∧ (g.2.map iG = N.take g.1 ∧ ∀ q ∈ g.2, okN q) ∧ g.1 ≤ n) (fun g => n - g.1) (0, []) ⟨hs.sel [2, 0, 1, 3, 4] (by decide), ⟨rfl, fun q hq => by cases hq⟩, Nat.zero_le _⟩ zss ?_
  rintro ⟨k, qs⟩ w2 ⟨hs1, ⟨hqm, hqo⟩, hk⟩ ih
  dsimp only at hs1 hqm hqo hk ih ⊢
  have hql : qs.length = k := by have := congrArg List.length hqm; rw [List.length_map, List.length_take] at this; omega
  by_cases hlt : k < n
  · obtain ⟨b, o, rfl⟩ := (hs1.row a1 n n).some (by omega)
    have hs : St w NoF w2 [_, _, _, _, _] := hs1
    have hx : N[k]? = some (N[k]'(by omega)) := List.getElem?_eq_getElem (by omega)
    obtain ⟨x, hxd⟩ : ∃ x, x = N[k]'(by omega) := ⟨_, rfl⟩
    rw [← hxd] at hx
    obtain ⟨z1, z2, z3⟩ := hz x (List.mem_of_getElem? hx)
    obtain ⟨o1, o2, o3⟩ := hNo x (List.mem_of_getElem? hx)
    obtain ⟨r, hrx, f1, f2, f3, f4⟩ := hm.get hx
    have f1 : r.1 = x.1 := f1
    have m1 : Sl dId All w r.2.1.1 r.2.1.2.1 r.2.1.2.2 x.2.1 := f2
    have m2 : Sl dStp All w r.2.2.1.1 r.2.2.1.2.1 r.2.2.1.2.2 x.2.2.1 := f3
    have m3 : Sl dStp All w r.2.2.2.1 r.2.2.2.2.1 r.2.2.2.2.2 x.2.2.2 := f4
    have l1 := m1.len
    have l2 := m2.len
    have l3 := m3.len
    obtain ⟨R0, hR0⟩ : ∃ R0, R0 = qs.map rawN ++ rs.drop k := ⟨_, rfl⟩
    have hcur : R0[k]? = some r := by rw [hR0]; exact yB (by rw [List.length_map]; exact hql) hrx
    have hR0l : k < R0.length := (List.getElem?_eq_some_iff.1 hcur).1
    have hld : ∀ (q : Nat) (u : Value), (cNd r)[q]? = some u → (encL cNd R0)[k * 4 + q]? = some u := fun q u hq => by
      have hq4 : q < 4 := (List.getElem?_eq_some_iff.1 hq).1
      rw [show (encL cNd R0)[k * 4 + q]? = (cNd r)[q]? from eX (d := dRNd) R0 k q r hcur hq4]; exact hq
    have hg1 : ∀ q1, (R0.set k (r.1, q1, r.2.2))[k]? = some (r.1, q1, r.2.2) := fun q1 => List.getElem?_set_self hR0l
    have hg2 : ∀ q1 q2, (R0.set k (r.1, q1, q2, r.2.2.2))[k]? = some (r.1, q1, q2, r.2.2.2) := fun q1 q2 => List.getElem?_set_self hR0l
    have hset1 : ∀ (a : Option Addr) (m c : Nat), bQ (encL cNd R0) (k * 4 + 1) [.slice a m c] = encL cNd (R0.set k (r.1, (a, m, c), r.2.2)) := fun a m c => yH R0 k r a m c hcur
    have hset2 : ∀ q1 (a : Option Addr) (m c : Nat), bQ (encL cNd (R0.set k (r.1, q1, r.2.2))) (k * 4 + 2) [.slice a m c] = encL cNd (R0.set k (r.1, q1, (a, m, c), r.2.2.2)) := fun q1 a m c => (oD _ k _ a m c (hg1 q1)).trans (by rw [List.set_set])
    have hset3 : ∀ q1 q2 (a : Option Addr) (m c : Nat), bQ (encL cNd (R0.set k (r.1, q1, q2, r.2.2.2))) (k * 4 + 3) [.slice a m c] = encL cNd (R0.set k (r.1, q1, q2, (a, m, c))) := fun q1 q2 a m c => (oC _ k _ a m c (hg2 q1 q2)).trans (by rw [List.set_set])
    have hmid : ∀ q, R0.set k q = (qs.map rawN ++ [q]) ++ rs.drop (k + 1) := fun q => by rw [hR0]; exact nL _ rs k q (by rw [List.length_map]; exact hql) (by omega)
    have htk : N.take (k + 1) = N.take k ++ [x] := by rw [List.take_add_one, hx]; rfl
    rw [← hR0] at hs
    repeat' (first | ((apply ax_c; apply kT 114; exact rfl; (intro W X hN hs; exact aC yJ rfl (kP _ r.2.1.1 r.2.1.2.1 r.2.1.2.2 x.2.1 (m1.st hs) (by omega))); (rintro _ _ _ _ ⟨a5, rfl, hf⟩; first | exact hE | exact Fresh.ext hf); rintro W X _ _ hN hs ⟨a5, rfl, hf⟩; have hs := hs.fresh hf; (try simp only [zcc] at hs); refine JX.at hs ?_)) | ((apply ax_c; apply kT 180; exact rfl; (intro W X hN hs; exact aC en180 rfl (sL _ r.2.2.1.1 r.2.2.1.2.1 r.2.2.1.2.2 x.2.2.1 (m2.st hs) (by omega))); (rintro _ _ _ _ ⟨a6, rfl, hf⟩; first | exact hE | exact Fresh.ext hf); rintro W X _ _ hN hs ⟨a6, rfl, hf⟩; have hs := hs.fresh hf; (try simp only [zcc] at hs); refine JX.at hs ?_)) | ((apply ax_c; apply kT 180; exact rfl; (intro W X hN hs; exact aC en180 rfl (sL _ r.2.2.2.1 r.2.2.2.2.1 r.2.2.2.2.2 x.2.2.2 (m3.st hs) (by omega))); (rintro _ _ _ _ ⟨a7, rfl, hf⟩; first | exact hE | exact Fresh.ext hf); rintro W X _ _ hN hs ⟨a7, rfl, hf⟩; have hs := hs.fresh hf; (try simp only [zcc] at hs); refine JX.at hs ?_)) | ((apply ax_c; apply JX_cu; exact rfl; (intro W X hN hs; apply bA; exact dJ (b := b) (o := o) (off := k * 4 + 1) (n := n) (c := n) (vs := [.slice a5 r.2.1.2.1 r.2.1.2.1]) hs rfl rfl rfl rfl (by simp [Value.oneCell']) (by show k * 4 + 1 + 1 ≤ n * 4; omega)); (rintro _ _ _ _ ⟨_, hF⟩; exact Frm.rlZ hF (fun k hk => .inl (gR hk))); exact rfl; rintro W X _ _ hN hs0 ⟨hs, hF⟩; rw [hset1] at hs; refine JX.at hs ?_)) | ((apply ax_c; apply JX_cu; exact rfl; (intro W X hN hs; apply bA; exact dJ (b := b) (o := o) (off := k * 4 + 2) (n := n) (c := n) (vs := [.slice a6 r.2.2.1.2.1 r.2.2.1.2.1]) hs rfl rfl rfl rfl (by simp [Value.oneCell']) (by show k * 4 + 2 + 1 ≤ n * 4; omega)); (rintro _ _ _ _ ⟨_, hF⟩; exact Frm.rlZ hF (fun k hk => .inl (gR hk))); exact rfl; rintro W X _ _ hN hs0 ⟨hs, hF⟩; rw [hset2] at hs; refine JX.at hs ?_)) | ((apply bH; refine JL_u (by apply bA; exact dJ (b := b) (o := o) (off := k * 4 + 3) (n := n) (c := n) (vs := [.slice a7 r.2.2.2.2.1 r.2.2.2.2.1]) hs rfl rfl rfl rfl (by simp [Value.oneCell']) (by show k * 4 + 3 + 1 ≤ n * 4; omega)) rfl ?_; rintro _ _ ⟨hs, hF⟩; rw [hset3] at hs)) | (apply aR) | ((first | (apply aI) | (apply zM; exact rfl; intro W hs)); (first | (apply aV; first | exact aU hs rfl rfl aA | exact aJ hs rfl aA | exact iL (b := b) (o := o) (off := k * 4) (n := n) (c := n) hs rfl rfl hld aA) | (apply aQ; exact aH rfl aA) | (apply aF; exact aB rfl aA) | (apply aT; first | exact aP rfl rfl aA | exact bP rfl rfl aA) | (apply cJ; exact bR rfl rfl (by omega) (by first | (simp only [Int.reduceAdd]; exact rfl) | exact rfl) aA) | (apply aK; exact aM rfl rfl rfl aA) | (apply aO; exact aN rfl rfl (by omega) (by omega) aA)); first | (exact rfl; exact rfl) | exact rfl) | (apply bB) | (apply aG) | (apply bC) | (apply bN) | (apply bJ) | (apply aL (t := 4); refine JL_o (by apply bE; exact aX hs) rfl rfl ?_; rintro _ _ ⟨b4, rfl, hb4, hs, hE⟩) | (apply bH; refine JL_u (by apply bA; exact aZ hs rfl rfl rfl) rfl ?_; rintro _ _ ⟨hs, hF⟩) | (apply aS; refine bF rfl ob ?_) | (apply dB; (refine J_drawW (id := 5) [0, 1, 0, 0, 8, 0, 0, 64, 0, 0, 512, 1536, 0, 4096, 15872, 0, 32768, 130560, 261639, 523783, 1048071, 2096703, 4193855, 8388159, 16777215, 33554431, 67108863] [(0, 0), (1, 0), (2, 0), (3, 0), (4, 0), (5, 0), (6, 0), (7, 0), (8, 0), (9, 0), (10, 0), (12, 0), (13, 0), (15, 0), (16, 0), (11, 1), (14, 1), (17, 1), (18, 0), (19, 0), (20, 1), (21, 0), (22, 0), (23, 1), (24, 0), (25, 0)] [26] (show St _ _ _ [_, _, _, _, _, _] from hs.sel [1, 0, 2, 3, 4, 5] (by decide)) eI (by kernel_rfl) (by kernel_rfl) (by kernel_rfl) (by kernel_rfl) (by kernel_rfl) ?_; intro NZ hNZ)) | (refine dA (fun W hs => ?_)) | (apply fS; case' hos => (simp only [List.map_cons, List.map_nil, List.getElem?_toArray, List.getElem?_cons_succ, List.getElem?_cons_zero]; repeat' (first | exact gZ | apply fQ))))
    rw [hmid] at hs
    obtain ⟨q, hq⟩ : ∃ q : QN, q = (r.1, ((a5, r.2.1.2.1, r.2.1.2.1), x.2.1), ((a6, r.2.2.1.2.1, r.2.2.1.2.1), x.2.2.1), ((a7, r.2.2.2.2.1, r.2.2.2.2.1), x.2.2.2)) := ⟨_, rfl⟩
    have hs := St.packN (q := (r.1, ((a5, r.2.1.2.1, r.2.1.2.1), x.2.1), ((a6, r.2.2.1.2.1, r.2.2.1.2.1), x.2.2.1), ((a7, r.2.2.2.2.1, r.2.2.2.2.1), x.2.2.2))) (L := [OwnN qs, _, _, _, _]) (hs.sel [2, 1, 0, 5, 3, 6, 7, 8] (by decide))
    rw [← hq] at hs
    have hs := St.pushN hs
    have hmp : (qs ++ [q]).map rawN = qs.map rawN ++ [(r.1, (a5, r.2.1.2.1, r.2.1.2.1), (a6, r.2.2.1.2.1, r.2.2.1.2.1), (a7, r.2.2.2.2.1, r.2.2.2.2.1))] := by rw [List.map_append, hq]; rfl
    have hqok : okN q := by rw [hq]; exact ⟨⟨l1.symm, o1⟩, ⟨l2.symm, o2⟩, ⟨l3.symm, o3⟩⟩
    have hqm2 : iG q = x := by rw [hq]; exact nm_eq.2 ⟨f1, rfl, rfl, rfl⟩
    refine ih (k + 1, qs ++ [q]) _ _ ⟨by dsimp only; rw [hmp]; exact hs.sel [1, 0, 2, 3, 4] (by decide), ⟨by dsimp only; rw [List.map_append, hqm, htk]; rw [List.map_cons, hqm2]; rfl, fun u hu => ?_⟩, by dsimp only; omega⟩ (by dsimp only; omega) zss
    rcases List.mem_append.1 hu with e | e
    · exact hqo u e
    · rw [List.mem_singleton.1 e]; exact hqok
  · have hkn : k = n := by omega
    rw [hkn, List.drop_of_length_le (by omega), List.append_nil] at hs1
    rw [hkn, List.take_of_length_le (by omega)] at hqm
    have hs : St w NoF w2 [_, _, _, _, _] := hs1
    repeat' (first | (apply aR) | ((apply aI); (first | (apply aQ; exact aH rfl aA) | (apply aT; first | exact aP rfl rfl aA | exact bP rfl rfl aA) | (apply aV; exact aU hs rfl rfl aA) | (apply aK; exact aM rfl rfl rfl aA) | (apply bL; exact bY rfl aA)); first | (exact rfl; exact rfl) | exact rfl) | (apply bB) | (apply aG) | (apply bC) | (apply cI; refine cZ rfl ?_) | (apply aS; refine bK rfl ob ?_))
    clear ih
    have hs := hs.nilOwn
    refine dG (α := Nat × List REnt) [(1, _), (2, _), (52, _), (53, _)] (fun g => [(54, .int .i64 g.1)]) (fun g w' => St w NoF w' [dH a3 n2 n2 (g.2 ++ re.drop g.1), Own g.2 (E.take g.1), TabN a1 n n (qs.map rawN), OwnN qs, Blk b2 (.cells #[.slice none 0 0, .slice none 0 0] 57 (0, 0)), Blk b1 (.cells #[.slice a1 n n, .slice a3 n2 n2] 57 (0, 0))] ∧ g.2.length = g.1 ∧ g.1 ≤ n2) (fun g => n2 - g.1) (0, []) ⟨hs.sel [3, 0, 1, 2, 4, 5] (by decide), rfl, Nat.zero_le _⟩ zss ?_
    rintro ⟨k2, rs3⟩ w3 ⟨hs2, hk3, hk2⟩ ih
    dsimp only at hs2 hk3 hk2 ih ⊢
    by_cases hlt2 : k2 < n2
    · obtain ⟨b, o, rfl⟩ := (hs2.row a3 n2 n2).some (by omega)
      have hs : St w NoF w3 [_, _, _, _, _, _] := hs2
      have hx : E[k2]? = some (E[k2]'(by omega)) := List.getElem?_eq_getElem (by omega)
      obtain ⟨x, hxd⟩ : ∃ x, x = E[k2]'(by omega) := ⟨_, rfl⟩
      rw [← hxd] at hx
      obtain ⟨r, hrx, hrel⟩ := hme.get hx
      obtain ⟨ok1, ok2, ok3⟩ := hEo x (List.mem_of_getElem? hx)
      have ok4 := hze x (List.mem_of_getElem? hx)
      have e1 : r.1 = x.1 := hrel.1
      have e3 : r.2.2 = x.2.2 := hrel.2.2
      have m2 : Sl dId All w r.2.1.1 r.2.1.2.1 r.2.1.2.2 x.2.1 := hrel.2.1
      have mlen := m2.len
      have hcur : (rs3 ++ re.drop k2)[k2]? = some r := yB hk3 hrx
      have hld : ∀ (q : Nat) (u : Value), (cR r)[q]? = some u → (encL cR (rs3 ++ re.drop k2))[k2 * 3 + q]? = some u := fun q u hq => by
        have hq3 : q < 3 := (List.getElem?_eq_some_iff.1 hq).1
        rw [show (encL cR (rs3 ++ re.drop k2))[k2 * 3 + q]? = (cR r)[q]? from eX (d := fL) (rs3 ++ re.drop k2) k2 q r hcur hq3]; exact hq
      have htk : E.take (k2 + 1) = E.take k2 ++ [x] := by rw [List.take_add_one, hx]; rfl
      repeat' (first | ((apply ax_c; apply kT 114; exact rfl; (intro W X hN hs; exact aC yJ rfl (kP _ r.2.1.1 r.2.1.2.1 r.2.1.2.2 x.2.1 (m2.st hs) (by omega))); (rintro _ _ _ _ ⟨a5, rfl, hf⟩; first | exact hE | exact Fresh.ext hf); rintro W X _ _ hN hs ⟨a5, rfl, hf⟩; have hs := hs.fresh hf; (try simp only [zcc] at hs); refine JX.at hs ?_)) | ((apply bH; have hset := (oE (rs3 ++ re.drop k2) k2 r (a5, r.2.1.2.1, r.2.1.2.1) hcur).trans (congrArg (encL cR) (nL rs3 re k2 (r.1, (a5, r.2.1.2.1, r.2.1.2.1), r.2.2) hk3 (by omega))); refine JL_u (by apply bA; exact dJ (b := b) (o := o) (off := k2 * 3 + 1) (n := n2) (c := n2) (vs := [.slice a5 r.2.1.2.1 r.2.1.2.1]) hs rfl rfl rfl rfl (by simp [Value.oneCell']) (by show k2 * 3 + 1 + 1 ≤ n2 * 3; omega)) rfl ?_; rintro _ _ ⟨hs, hF⟩; rw [hset] at hs)) | (apply aR) | ((first | (apply aI) | (apply JX_f; exact rfl; intro W X hs)); (first | (apply aV; first | exact aU hs rfl rfl aA | exact aJ hs rfl aA | exact iL (b := b) (o := o) (off := k2 * 3) (n := n2) (c := n2) hs rfl rfl hld aA) | (apply aQ; exact aH rfl aA) | (apply aF; exact aB rfl aA) | (apply aT; first | exact aP rfl rfl aA | exact bP rfl rfl aA) | (apply cJ; exact bR rfl rfl (by omega) (by first | (simp only [Int.reduceAdd]; exact rfl) | exact rfl) aA) | (apply aK; exact aM rfl rfl rfl aA) | (apply aO; exact aN rfl rfl (by omega) (by omega) aA)); first | (exact rfl; exact rfl) | exact rfl) | (apply bB) | (apply aG) | (apply bC) | (apply bN) | (apply bJ) | (apply aL (t := 6); refine JL_o (by apply bE; exact aX hs) rfl rfl ?_; rintro _ _ ⟨b6, rfl, hb6, hs, hE⟩) | (apply bH; refine JL_u (by apply bA; exact aZ hs rfl rfl rfl) rfl ?_; rintro _ _ ⟨hs, hF⟩) | (apply aS; refine bF rfl ob ?_) | (apply dB; (refine dE (id := 10) [0, 1, 3, 0, 0, 16, 48, 127, 255, 511] [(0, 0), (1, 0), (2, 0), (3, 0), (4, 0), (5, 0), (6, 1), (7, 0), (8, 0)] [9] hs eI (by kernel_rfl) (by kernel_rfl) (by kernel_rfl) (by kernel_rfl) (by kernel_rfl) ?_)) | (refine dA (fun W hs => ?_)) | (apply fS; case' hos => (simp only [List.map_cons, List.map_nil, List.getElem?_toArray, List.getElem?_cons_succ, List.getElem?_cons_zero]; repeat' (first | exact gZ | apply fQ))))
      have hs : St w NoF _ [Row a5 r.2.1.2.1 r.2.1.2.1 29 1 (rN x.2.1), Own rs3 (E.take k2), dH (some ⟨b, o, none⟩) n2 n2 (rs3 ++ [(r.1, (a5, r.2.1.2.1, r.2.1.2.1), r.2.2)] ++ re.drop (k2 + 1)), TabN a1 n n (qs.map rawN), OwnN qs, Blk b2 (.cells #[.slice none 0 0, .slice none 0 0] 57 (0, 0)), Blk b1 (.cells #[.slice a1 n n, .slice (some ⟨b, o, none⟩) n2 n2] 57 (0, 0))] := (congrArg (fun l => St w NoF _ [Row a5 r.2.1.2.1 r.2.1.2.1 29 1 l, _, _, _, _, _, _]) (u64_encI x.2.1)).mpr (hs.sel [0, 3, 2, 4, 5, 6, 7] (by decide))
      have hs := St.pushOwn hs mlen.symm r.1 r.2.2 (by rw [e1]; exact ok1) (by rw [e3]; exact ok2) ok3
      have hx3 : (r.1, x.2.1, r.2.2) = x := by rw [e1, e3]
      rw [hx3, ← htk] at hs
      refine ih (k2 + 1, rs3 ++ [(r.1, (a5, r.2.1.2.1, r.2.1.2.1), r.2.2)]) _ _ ⟨hs.sel [1, 0, 2, 3, 4, 5] (by decide), by simp [hk3], by dsimp only; omega⟩ (by dsimp only; omega) zss
    · have hkn2 : k2 = n2 := by omega
      rw [hkn2, List.drop_of_length_le (by omega), List.append_nil, List.take_of_length_le (by omega)] at hs2
      have hs : St w NoF w3 [_, _, _, _, _, _] := hs2
      repeat' (first | (apply aR) | ((apply aI); (first | (apply aV; exact aJ hs rfl aA) | (apply aK; exact aM rfl rfl rfl aA)); first | (exact rfl; exact rfl) | exact rfl) | (apply bB) | (apply aG) | (apply cI; refine cZ rfl ?_) | (apply bH; refine JL_u (by apply bA; exact aZ hs rfl rfl rfl) rfl ?_; rintro _ _ ⟨hs, hF⟩) | (apply aS; refine bK rfl ob ?_))
      refine aY Tryz.func107 rfl (.agg' hs rfl rfl .nil) ⟨qs, rs3, a1, a3, ⟨hqm, hqo⟩, rfl, (hs.sel [2, 3, 0, 1] (by decide)).out (List.Sublist.refl _)⟩
end Go.Eng
end
section
namespace Go.Eng
open Go.Proofs
set_option linter.unusedSimpArgs false
set_option linter.unusedVariables false
abbrev kK (l : List ST) : List Int := l.map Prod.fst
theorem nV {l : List ST} (h : jF l) : iO (kK l) := by unfold iO kK; rw [List.pairwise_map]; exact h
theorem mZ {l : List ST} {i : Nat} {s : ST} (h : l[i]? = some s) : (kK l)[i]? = some s.1 := by rw [List.getElem?_map, h]; rfl
theorem cmpI_neg {x y : Int} : cmpI x y < 0 ↔ x < y := by
  unfold cmpI
  by_cases h : x < y
  · rw [if_pos h]; exact ⟨fun _ => h, fun _ => by omega⟩
  · rw [if_neg h]
    by_cases h2 : y < x
    · rw [if_pos h2]; exact ⟨fun h => by omega, fun h => by omega⟩
    · rw [if_neg h2]; exact ⟨fun h => by omega, fun h => by omega⟩
theorem cmpI_eq {x y : Int} : cmpI x y = 0 ↔ x = y := ⟨sJ, fun h => by rw [h]; exact sK y⟩
theorem cut_wiS {l : List ST} {s : ST} {i : Nat} (h : CutI (kK l) s.1 i) (hn : s.1 ∉ kK l) : l.take i ++ [s] ++ l.drop i = wiS l s := by
  unfold wiS
  have hlo : ∀ j x, l[j]? = some x → j < i → x.1 < s.1 := fun j x hx hj => h.lo j x.1 (mZ hx) hj
  have hhi : ∀ j x, l[j]? = some x → i ≤ j → s.1 < x.1 := fun j x hx hj => by
    have h1 := h.hi j x.1 (mZ hx) hj
    have h2 : x.1 ≠ s.1 := fun e => hn (e ▸ List.mem_map_of_mem (List.mem_of_getElem? hx))
    omega
  have e1 : l.take i = l.filter (fun x => decide (x.1 < s.1)) := by
    conv => rhs; rw [← List.take_append_drop i l]
    rw [List.filter_append, List.filter_eq_self.2, List.filter_eq_nil_iff.2, List.append_nil]
    · intro x hx
      obtain ⟨j, hj⟩ := List.mem_iff_getElem?.1 hx
      rw [List.getElem?_drop] at hj
      have := hhi _ x hj (by omega)
      simp; omega
    · intro x hx
      obtain ⟨j, hj⟩ := List.mem_iff_getElem?.1 hx
      have hji : j < i := by have := (List.getElem?_eq_some_iff.1 hj).1; rw [List.length_take] at this; omega
      rw [List.getElem?_take_of_lt hji] at hj
      exact decide_eq_true (hlo _ x hj hji)
  have e2 : l.drop i = l.filter (fun x => decide (s.1 < x.1)) := by
    conv => rhs; rw [← List.take_append_drop i l]
    rw [List.filter_append, List.filter_eq_nil_iff.2, List.filter_eq_self.2, List.nil_append]
    · intro x hx
      obtain ⟨j, hj⟩ := List.mem_iff_getElem?.1 hx
      rw [List.getElem?_drop] at hj
      exact decide_eq_true (hhi _ x hj (by omega))
    · intro x hx
      obtain ⟨j, hj⟩ := List.mem_iff_getElem?.1 hx
      have hji : j < i := by have := (List.getElem?_eq_some_iff.1 hj).1; rw [List.length_take] at this; omega
      rw [List.getElem?_take_of_lt hji] at hj
      have := hlo _ x hj hji
      simp; omega
  rw [← e1, ← e2, List.append_assoc]; rfl
theorem vM {xs : List ST} {s : ST} {i : Nat} : (encL cT xs).take (i * 2) ++ cT s ++ (encL cT xs).drop (i * 2) = encL cT (xs.take i ++ [s] ++ xs.drop i) := by
  have e1 : encL cT (xs.take i) = (encL cT xs).take (i * 2) := iI (d := dStp) xs i
  have e2 : encL cT (xs.drop i) = (encL cT xs).drop (i * 2) := lV (d := dStp) xs i
  rw [gP, gP, e1, e2]
  simp [encL]
attribute [local irreducible] Hold J JL JD JX JXat OpR OpG Ret RetV Is Blk Row
set_option maxRecDepth 100000
set_option maxHeartbeats 1000000
theorem bsT_r (w : World) (a : Option Addr) (n c : Nat) (l : List ST) (x : ST) (h : Sl dStp All w a n c l) (hx : okT x) (hr : jF l) (hn : n ≤ 1000000) :
    Ret Tryz.prog 171 #[.slice a n c, .agg (cT x).toArray, .func (.func 172) #[] #[]] w fun v w' => ∃ i : Nat, CutI (kK l) x.1 i ∧ v = .tuple #[.int .i64 i, .bool (decide (x.1 ∈ kK l))] ∧ Ext w w' := by
  refine cG (l := [_, _, _]) Tryz.func171 rfl Tryz.ntmps171 (by simp) ?_
  have hs := St.init w
  have hl := h.len
  have hlo := tZ h
  have hlk : (kK l).length = n := by rw [List.length_map]; exact hl
  have hmono : ∀ (p q : Nat) (u v : Int), (kK l)[p]? = some u → (kK l)[q]? = some v → p < q → u < v := fun p q u v hu hv hpq => by
    have := List.pairwise_iff_getElem.1 (nV hr) p q (List.getElem?_eq_some_iff.1 hu).1 (List.getElem?_eq_some_iff.1 hv).1 hpq
    rwa [(List.getElem?_eq_some_iff.1 hu).2, (List.getElem?_eq_some_iff.1 hv).2] at this
  repeat' (first | (apply aR) | ((apply aI); (first | (apply aQ; exact aH rfl aA) | (apply aF; exact aB rfl aA) | (apply bL; exact bY rfl aA)); first | (exact rfl; exact rfl) | exact rfl) | (apply bB) | (apply aG) | (apply bC) | (apply aL (t := 4); refine JL_o (by apply cD; exact bG hs rfl) rfl rfl ?_; rintro _ _ ⟨b4, rfl, hb4, hs, hE⟩))
  refine dG (α := Nat × Nat) [(0, _), (2, _), (4, _), (8, _)] (fun g => [(9, .int .i64 g.1), (10, .int .i64 g.2)]) (fun g w' => St w NoF w' [Blk b4 (.cells #[.int .u64 x.1, .int .i64 x.2] 93 (0, 0))] ∧ g.1 ≤ g.2 ∧ g.2 ≤ n ∧ (∀ j y, (kK l)[j]? = some y → j < g.1 → y < x.1) ∧ (∀ j y, (kK l)[j]? = some y → g.2 ≤ j → x.1 ≤ y)) (fun g => g.2 - g.1) (0, n) ⟨hs, Nat.zero_le _, Nat.le_refl _, (fun j y _ hj => absurd hj (Nat.not_lt_zero _)), (fun j y hy hj => by have := (List.getElem?_eq_some_iff.1 hy).1; dsimp only at hj; omega)⟩ zss ?_
  rintro ⟨i, j⟩ w2 ⟨hs1, hij, hjn, hlo_, hhi⟩ ih
  dsimp only at hs1 hij hjn hlo_ hhi ih ⊢
  by_cases hlt : i < j
  · obtain ⟨p, o, rfl⟩ := h.sl.addr (by omega)
    have hs : St w NoF w2 [_] := hs1
    obtain ⟨m, hm_⟩ : ∃ m, m = (i + j) / 2 := ⟨_, rfl⟩
    have hmi : i ≤ m := by omega
    have hmj : m < j := by omega
    have hmv : ((i : Int) + (j : Int)) / 2 = (m : Int) := by omega
    have hy : l[m]? = some (l[m]'(by omega)) := List.getElem?_eq_getElem (by omega)
    obtain ⟨y, hyd⟩ : ∃ y, y = l[m]'(by omega) := ⟨_, rfl⟩
    rw [← hyd] at hy
    have hyo := hlo y (List.mem_of_getElem? hy)
    have hky := mZ hy
    obtain ⟨cc, hcc⟩ : ∃ cc, cc = cmpI y.1 x.1 := ⟨_, rfl⟩
    by_cases hc : cc < 0
    · have hyx : y.1 < x.1 := cmpI_neg.1 (hcc ▸ hc)
      repeat' (first | ((apply ax_c; apply JX_c (t := 30); exact rfl; (intro W X hN hs; exact cH rfl rfl (Ret.value (cap := #[]) lE (dV _ y x hyo hx))); (rintro _ _ _ _ ⟨rfl, hE⟩; first | exact Ext.rl hE | exact Ext.rl (Fresh.ext hf)); exact rfl; rintro W X _ _ hN hs ⟨rfl, hE⟩; rw [← hcc]; have hs := hs.ext hE; (try simp only [zcc] at hs); refine JX.at hs ?_)) | (apply aR) | ((first | (apply aI) | (apply JX_f; exact rfl; intro W X hs)); (first | (apply aV; first | exact aU hs rfl rfl aA | exact aJ hs rfl aA | exact bI (i := m) (h.st hs) hy rfl rfl aA) | (apply aK; exact mL (n := 1) rfl rfl (by decide) rfl (by rw [show ((i : Int) + (j : Int)) / 2 ^ 1 = (m : Int) from hmv]; exact aA)) | (apply aQ; exact aH rfl aA) | (apply aF; exact aB rfl aA) | (apply cJ; exact bR rfl rfl (by omega) (by first | (simp only [Int.reduceAdd]; exact rfl) | exact rfl) aA) | (apply aK; exact aM rfl rfl rfl aA) | (apply fO; first | exact gK rfl (by omega) aA | exact gE rfl (by omega) aA) | (apply aO; exact aN rfl rfl (by omega) (by omega) aA)); first | (exact rfl; exact rfl) | exact rfl) | (apply bB) | (apply aG) | (apply bC) | (apply bN) | (apply bJ) | (apply aS; refine bF rfl ob ?_) | (apply dB; (refine dE (id := 5) [0, 0, 0, 6, 14, 0, 63, 127] [(0, 0), (1, 0), (2, 0), (3, 0), (4, 0), (5, 0), (6, 1), (7, 0)] [] hs eI (by kernel_rfl) (by kernel_rfl) (by kernel_rfl) (by kernel_rfl) (by kernel_rfl) ?_)) | (refine dA (fun W hs => ?_)) | (apply dP))
      refine ih (m + 1, j) _ _ ⟨hs, by show m + 1 ≤ j; omega, hjn, fun q u hu hq => ?_, hhi⟩ (by show j - (m + 1) < j - i; omega) zss
      by_cases e : q = m
      · subst e; rw [hky] at hu; cases hu; exact hyx
      · have := hmono q m u y.1 hu hky (by dsimp only at hq; omega); omega
    · have hyx : ¬ y.1 < x.1 := fun h => hc (hcc ▸ cmpI_neg.2 h)
      repeat' (first | ((apply ax_c; apply JX_c (t := 30); exact rfl; (intro W X hN hs; exact cH rfl rfl (Ret.value (cap := #[]) lE (dV _ y x hyo hx))); (rintro _ _ _ _ ⟨rfl, hE⟩; first | exact Ext.rl hE | exact Ext.rl (Fresh.ext hf)); exact rfl; rintro W X _ _ hN hs ⟨rfl, hE⟩; rw [← hcc]; have hs := hs.ext hE; (try simp only [zcc] at hs); refine JX.at hs ?_)) | (apply aR) | ((first | (apply aI) | (apply JX_f; exact rfl; intro W X hs)); (first | (apply aV; first | exact aU hs rfl rfl aA | exact aJ hs rfl aA | exact bI (i := m) (h.st hs) hy rfl rfl aA) | (apply aK; exact mL (n := 1) rfl rfl (by decide) rfl (by rw [show ((i : Int) + (j : Int)) / 2 ^ 1 = (m : Int) from hmv]; exact aA)) | (apply aQ; exact aH rfl aA) | (apply aF; exact aB rfl aA) | (apply cJ; exact bR rfl rfl (by omega) (by first | (simp only [Int.reduceAdd]; exact rfl) | exact rfl) aA) | (apply aK; exact aM rfl rfl rfl aA) | (apply fO; first | exact gK rfl (by omega) aA | exact gE rfl (by omega) aA) | (apply aO; exact aN rfl rfl (by omega) (by omega) aA)); first | (exact rfl; exact rfl) | exact rfl) | (apply bB) | (apply aG) | (apply bC) | (apply bN) | (apply bJ) | (apply aS; first | refine bF rfl ob ?_ | refine bK rfl ob ?_) | (apply dB; (refine dE (id := 5) [0, 0, 0, 6, 14, 0, 63, 127] [(0, 0), (1, 0), (2, 0), (3, 0), (4, 0), (5, 0), (6, 1), (7, 0)] [] hs eI (by kernel_rfl) (by kernel_rfl) (by kernel_rfl) (by kernel_rfl) (by kernel_rfl) ?_)) | (refine dA (fun W hs => ?_)) | (apply dP))
      refine ih (i, m) _ _ ⟨hs, hmi, by show m ≤ n; omega, hlo_, fun q u hu hq => ?_⟩ (by show m - i < j - i; omega) zss
      by_cases e : q = m
      · subst e; rw [hky] at hu; cases hu; omega
      · have := hmono m q y.1 u hky hu (by dsimp only at hq; omega); omega
  · have hs : St w NoF w2 [_] := hs1
    have hij2 : i = j := by omega
    subst hij2
    have hcut : CutI (kK l) x.1 i := ⟨by omega, hlo_, hhi⟩
    by_cases hin : i < n
    · obtain ⟨p, o, rfl⟩ := h.sl.addr (by omega)
      have hs : St w NoF w2 [_] := hs1
      have hy : l[i]? = some (l[i]'(by omega)) := List.getElem?_eq_getElem (by omega)
      obtain ⟨y, hyd⟩ : ∃ y, y = l[i]'(by omega) := ⟨_, rfl⟩
      rw [← hyd] at hy
      have hyo := hlo y (List.mem_of_getElem? hy)
      have hky := mZ hy
      obtain ⟨cc, hcc⟩ : ∃ cc, cc = cmpI y.1 x.1 := ⟨_, rfl⟩
      have hmd : decide (x.1 ∈ kK l) = decide (cc = 0) := by
        rw [decide_eq_decide, hcc, cmpI_eq, hcut.there (nV hr), hky]
        exact ⟨fun h => Option.some.inj h, fun h => by rw [h]⟩
      rw [hmd]
      repeat' (first | ((apply ax_c; apply lL (t := 46); exact rfl; exact rfl; exact gb; (intro W X hN hs; exact cH rfl rfl (Ret.value (cap := #[]) lE (dV _ y x hyo hx))); (rintro _ _ _ _ ⟨rfl, hE⟩; first | exact Ext.rl hE | exact Ext.rl (Fresh.ext hf)); exact rfl; rintro W X _ _ hN hs ⟨rfl, hE⟩; rw [← hcc]; have hs := hs.ext hE; (try simp only [zcc] at hs); refine JX.at hs ?_)) | (apply aR) | ((first | (apply aI) | (apply JX_f; exact rfl; intro W X hs) | (apply fK; exact rfl; exact rfl; exact gb; intro W X hs)); (first | (apply aV; first | exact aU hs rfl rfl aA | exact aJ hs rfl aA | exact bI (i := i) (h.st hs) hy rfl rfl aA) | (apply aQ; exact aH rfl aA) | (apply aF; exact aB rfl aA) | (apply aK; exact aM rfl rfl rfl aA) | (apply cF; exact bW rfl gb rfl aA) | (apply aO; exact aN rfl rfl (by omega) (by omega) aA)); first | (exact rfl; exact rfl) | exact rfl) | (apply bB) | (apply aG) | (apply cI; refine cZ rfl ?_) | (apply aS; refine bK rfl ob ?_) | (apply dB; (refine dE (id := 8) [0, 0, 0, 6, 14, 30, 30, 30, 222, 478, 30, 2046, 4094, 8190, 4095, 32767] [(0, 0), (1, 0), (2, 0), (3, 0), (4, 0), (5, 0), (6, 0), (7, 0), (8, 0), (9, 0), (10, 0), (11, 1), (12, 0), (13, 0), (14, 0), (15, 0)] [] hs eI (by kernel_rfl) (by kernel_rfl) (by kernel_rfl) (by kernel_rfl) (by kernel_rfl) ?_)) | (refine dA (fun W hs => ?_)) | (apply dP))
      refine aY Tryz.func171 rfl (.tmp rfl (.tmp rfl .nil)) ⟨i, hcut, rfl, hs.frm.ext⟩
    · have hmd : decide (x.1 ∈ kK l) = false := decide_eq_false (fun hm => by have := (List.getElem?_eq_some_iff.1 ((hcut.there (nV hr)).1 hm)).1; omega)
      rw [hmd]
      repeat' (first | (apply aR) | ((first | (apply aI) | (apply JX_f; exact rfl; intro W X hs)); (first | (apply aQ; exact aH rfl aA) | (apply aF; exact aB rfl aA) | (apply aK; exact aM rfl rfl rfl aA) | (apply cF; exact bO rfl gb rfl aA)); first | (exact rfl; exact rfl) | exact rfl) | (apply bB) | (apply aG) | (apply cI; refine cZ rfl ?_) | (apply aS; refine bK rfl ob ?_) | (apply dB; (refine dE (id := 8) [0, 0, 0, 6, 14, 30, 30, 30, 222, 478, 30, 2046, 4094, 8190, 4095, 32767] [(0, 0), (1, 0), (2, 0), (3, 0), (4, 0), (5, 0), (6, 0), (7, 0), (8, 0), (9, 0), (10, 0), (11, 1), (12, 0), (13, 0), (14, 0), (15, 0)] [] hs eI (by kernel_rfl) (by kernel_rfl) (by kernel_rfl) (by kernel_rfl) (by kernel_rfl) ?_)) | (refine dA (fun W hs => ?_)) | (refine eM rfl rfl gb rfl ?_) | (refine eO rfl rfl gb rfl ?_) | (apply dP))
      refine aY Tryz.func171 rfl (.tmp rfl (.tmp rfl .nil)) ⟨i, hcut, rfl, hs.frm.ext⟩
-- WSPL 170 2 : [1] [0]
theorem gput_r (w : World) (b o n c q : Nat) (Y : List Value) (ra : Option Addr) (rn rc : Nat) (row : List ST) (id to : Int) (bid : Nat)
    (hh : Held w [Row (some ⟨b, o, none⟩) n c 79 4 Y, RowT ra rn rc row]) (hq : Y[q]? = some (.slice ra rn rc)) (hq4 : q < n * 4) (hlen : row.length = rn) (hok : ∀ s ∈ row, okT s) (hid : okId id) (hto : inK .i64 to) (hrise : jF row) (hsame : ∀ s ∈ row, s.1 = id → s = (id, to)) (hrn : rn ≤ 1000000)
    (hbid : w.heap[bid]? = some (.cells #[.int .u64 id] 29 (0, 0))) (hsep : ∀ k, (Star [Row (some ⟨b, o, none⟩) n c 79 4 Y, RowT ra rn rc row]).foot k → k ≠ bid) :
    Ret Tryz.prog 170 #[.pointer (some ⟨b, o + q, none⟩), .int .i64 to, ptr bid] w fun _ w' => ∃ (ra' : Option Addr) (rc' : Nat), Turn w [Row (some ⟨b, o, none⟩) n c 79 4 Y, RowT ra rn rc row] w' [Row (some ⟨b, o, none⟩) n c 79 4 (bQ Y q [.slice ra' (wiS row (id, to)).length rc']), RowT ra' (wiS row (id, to)).length rc' (wiS row (id, to))] := by
  refine cG (l := [_, _, _]) Tryz.func170 rfl Tryz.ntmps170 (by simp) ?_
  have hs := hh.st
  have hYl : Y.length = n * 4 := (hs.row (some ⟨b, o, none⟩) n c).len
  have hbF : ¬ (Star [Row (some ⟨b, o, none⟩) n c 79 4 Y, RowT ra rn rc row]).foot bid := fun h => hsep _ h rfl
  have h0k : okT (id, 0) := ⟨hid, by show inK .i64 0; unfold inK; simp only [IntKind.min, IntKind.max, IntKind.bits, IntKind.signed]; omega⟩
  obtain ⟨mb, hmb⟩ : ∃ m, decide (id ∈ kK row) = m := ⟨_, rfl⟩
  cases mb with
  | true =>
    have hm := of_decide_eq_true hmb
    have hin : (id, to) ∈ row := by
      obtain ⟨s, h1, h2⟩ := List.mem_map.1 hm
      exact hsame s h1 h2 ▸ h1
    have hw : wiS row (id, to) = row := wiS_self hrise hin
    have hY : bQ Y q [.slice ra rn rc] = Y := by
      rw [vA _ _ _ (by omega)]
      apply List.ext_getElem?
      intro i
      by_cases e : i = q
      · rw [e, List.getElem?_set_self (by omega), hq]
      · rw [List.getElem?_set_ne (by omega)]
    rw [hw, hlen]
    repeat' (first | ((apply ax_c; apply kT 171; exact rfl; (intro W X hN hs; exact aC en171 rfl (bsT_r _ ra rn rc row (id, 0) (slT hs zmm hok) h0k hrise hrn)); (rintro _ _ _ _ ⟨i, hcut, rfl, hE⟩; first | exact hE | exact Fresh.ext hf); rintro W X _ _ hN hs ⟨i, hcut, rfl, hE⟩; rw [hmb]; have hs := hs.ext hE; (try simp only [zcc] at hs); refine JX.at hs ?_)) | (apply aR) | ((first | (apply aI) | (apply JX_f; exact rfl; intro W X hs)); (first | (apply aV; first | exact gD (b := b) (o := o) (off := q) (n := n) (c := c) hs rfl hq aA | exact bT (hs.keep_cell (cK (off := 0) hbid rfl) hbF) rfl aA) | (apply aQ; exact aH rfl aA) | (apply aF; exact aB rfl aA) | (apply cB; exact cE rfl aA) | (apply iJ; exact gW rfl aA) | (apply bS; exact bM rfl rfl aA) | (apply cY; exact cL rfl (by (simp only [bld, cQ, bQ, Value.cells, List.take_succ_cons, List.take_zero, List.drop_succ_cons, List.drop_zero, List.cons_append, List.nil_append, List.length_cons, List.length_nil, List.getElem?_cons_zero, List.getElem?_cons_succ, Option.map_some, List.append_nil, Nat.reduceAdd, Nat.reduceMul, Nat.zero_add, Nat.reduceLeDiff, and_self, if_true, List.toList_toArray, Nat.le_refl, Nat.zero_mul, Nat.one_mul]; first | done | rfl)) aA)); first | (exact rfl; exact rfl) | exact rfl) | (apply bB) | (apply aG) | (apply bJ) | (apply aS; refine bV rfl gb ?_) | (apply dB; (refine dE (id := 0) [0, 1, 3, 0, 8, 31, 63, 127, 127, 255, 1023] [(0, 0), (1, 0), (2, 0), (3, 0), (4, 0), (5, 1), (6, 0), (7, 0), (8, 0), (9, 0), (10, 0)] [] hs eI (by kernel_rfl) (by kernel_rfl) (by kernel_rfl) (by kernel_rfl) (by kernel_rfl) ?_)) | (refine dA (fun W hs => ?_)) | (apply dP))
    refine fD Tryz.func170 rfl .nil ⟨ra, rc, by rw [hY]; exact St.turned (M := []) hs⟩
  | false =>
    have hm := of_decide_eq_false hmb
    have hwl : ∀ i, CutI (kK row) id i → (encL cT row).take (i * 2) ++ [.int .u64 id, .int .i64 to] ++ (encL cT row).drop (i * 2) = encL cT (wiS row (id, to)) ∧ rn + 1 = (wiS row (id, to)).length ∧ i ≤ rn := fun i hc => by
      have h1 := cut_wiS (s := (id, to)) hc hm
      have h2 : i ≤ rn := by have := hc.le; rw [List.length_map, hlen] at this; exact this
      refine ⟨by rw [← h1, ← vM], ?_, h2⟩
      rw [← h1, List.length_append, List.length_append, List.length_take, List.length_drop, List.length_singleton]; omega
    repeat' (first | ((apply ax_c; apply kT 171; exact rfl; (intro W X hN hs; exact aC en171 rfl (bsT_r _ ra rn rc row (id, 0) (slT hs zmm hok) h0k hrise hrn)); (rintro _ _ _ _ ⟨i, hcut, rfl, hE⟩; first | exact hE | exact Fresh.ext hf); rintro W X _ _ hN hs ⟨i, hcut, rfl, hE⟩; rw [hmb]; have hs := hs.ext hE; (try simp only [zcc] at hs); refine JX.at hs ?_)) | (apply aR) | ((first | (apply aI) | (apply JX_f; exact rfl; intro W X hs) | (apply zM; exact rfl; intro W hs)); (first | (apply aV; first | exact gD (b := b) (o := o) (off := q) (n := n) (c := c) hs rfl hq aA | exact bT (hs.keep_cell (cK (off := 0) hbid rfl) hbF) rfl aA) | (apply aQ; exact aH rfl aA) | (apply aF; exact aB rfl aA) | (apply cB; exact cE rfl aA) | (apply iJ; exact gW rfl aA) | (apply bS; exact bM rfl rfl aA) | (apply cY; exact cL rfl (by (simp only [bld, cQ, bQ, Value.cells, List.take_succ_cons, List.take_zero, List.drop_succ_cons, List.drop_zero, List.cons_append, List.nil_append, List.length_cons, List.length_nil, List.getElem?_cons_zero, List.getElem?_cons_succ, Option.map_some, List.append_nil, Nat.reduceAdd, Nat.reduceMul, Nat.zero_add, Nat.reduceLeDiff, and_self, if_true, List.toList_toArray, Nat.le_refl, Nat.zero_mul, Nat.one_mul]; first | done | rfl)) aA)); first | (exact rfl; exact rfl) | exact rfl) | (apply bB) | (apply aG) | (apply ax_n; refine JX_n (t := 26) rfl (fun W L hs => by apply cV; exact cO hs rfl (by omega) rfl) rfl ?_) | (apply ax_k; (first | refine JX_k (t := 26) ?_ | refine JX_k2 (t := 26) rfl ?_); intro b26) | (apply aS; refine bZ rfl gb ?_) | (apply dB; first | (refine dE (id := 0) [0, 1, 3, 0, 8, 31, 63, 127, 127, 255, 1023] [(0, 0), (1, 0), (2, 0), (3, 0), (4, 0), (5, 1), (6, 0), (7, 0), (8, 0), (9, 0), (10, 0)] [] hs eI (by kernel_rfl) (by kernel_rfl) (by kernel_rfl) (by kernel_rfl) (by kernel_rfl) ?_) | (refine zJ (id := 2) [0, 0, 2, 6, 0, 0, 0, 96, 224, 510, 1023, 2047] [(0, 0), (1, 0), (2, 0), (3, 0), (4, 0), (5, 0), (6, 0), (7, 0), (8, 2), (8, 3), (9, 1), (10, 0)] [11] [_] [_] (show St _ _ _ [_, _] from hs.sel [1, 0] (by decide)) rfl eI (by kernel_rfl) (by kernel_rfl) (by kernel_rfl) (by kernel_rfl) (by kernel_rfl) ?_; intro ZZ hZZ)) | (refine dA (fun W hs => ?_)) | (apply dP))
    have hYq : ∀ (ra' : Option Addr) (rn' rc' : Nat), q + [Value.slice ra' rn' rc'].length ≤ n * 4 := fun _ _ _ => by show q + 1 ≤ n * 4; omega
    obtain ⟨hwc, hwn, hile⟩ := hwl i hcut
    repeat' (first | ((apply ax_c; apply JX_c (t := 27); exact rfl; (intro W X hN hs; have hs2 : St w (Star [Row (some ⟨b, o, none⟩) n c 79 4 Y, RowT ra rn rc row]).foot W ([RowT ra rn rc row, Blk b26 (.cells #[.int .u64 id, .int .i64 to] 93 (0, 0))] ++ [Row (some ⟨b, o, none⟩) n c 79 4 Y, X]) := hs.sel [2, 1, 3, 0] (by decide); exact iM (aC en173 rfl (insT_r _ ra rn rc i (encL cT row) (.int .u64 id) (.int .i64 to) b26 (St.held (A := [_, _]) hs2) hile hrn (one_encT row) (fun u hu => by simp only [List.mem_cons, List.not_mem_nil, or_false] at hu; rcases hu with rfl | rfl <;> rfl))) (St.zfoot (A := [_, _]) (C0 := [_]) (hs2.sub (List.Sublist.append_left (.cons_cons _ (List.nil_sublist _)) _)) hZZ)); (rintro _ _ _ _ ⟨⟨a4, c4, rfl, ht⟩, hz⟩; exact Frm.rlZ ht.frm hz); exact rfl; rintro W X _ _ hN hs ⟨⟨a4, c4, rfl, ht⟩, hz⟩; have hs2 : St w (Star [Row (some ⟨b, o, none⟩) n c 79 4 Y, RowT ra rn rc row]).foot W ([RowT ra rn rc row, Blk b26 (.cells #[.int .u64 id, .int .i64 to] 93 (0, 0))] ++ [Row (some ⟨b, o, none⟩) n c 79 4 Y, X]) := hs.sel [2, 1, 3, 0] (by decide); have hs := St.take (A := [_, _]) (A' := [_]) hs2 ht; rw [hwc, hwn] at hs; simp only [zcc] at hs; refine JX.at hs ?_)) | ((apply zM; exact rfl; intro W hs); (apply iJ; exact gW rfl aA); first | (exact rfl; exact rfl) | exact rfl) | (refine dA (fun W hs => ?_)) | (apply fS; case' hos => (simp only [List.map_cons, List.map_nil, List.getElem?_toArray, List.getElem?_cons_succ, List.getElem?_cons_zero]; repeat' (first | exact gZ | apply fQ))))
    apply bH
    refine JL_u (by apply bA; exact dJ (b := b) (o := o) (off := q) (n := n) (c := c) (vs := [.slice a4 (rn + 1) c4]) hs rfl rfl rfl rfl (by simp [Value.oneCell']) (by show q + 1 ≤ n * 4; omega)) rfl ?_
    rintro _ _ ⟨hs, hF⟩
    repeat' (first | (apply aR))
    rw [hwn] at hs
    refine fD Tryz.func170 rfl .nil ⟨a4, c4, St.turned (M := []) (hs.sel [1, 0] (by decide))⟩
end Go.Eng
end
section
namespace Go.Eng
open Go.Proofs
set_option linter.unusedSimpArgs false
set_option linter.unusedVariables false
attribute [local irreducible] Hold J JL JD JX JXat OpR OpG Ret RetV Is Blk Row
set_option maxRecDepth 100000
set_option maxHeartbeats 1000000
end Go.Eng
end
section
namespace Go.Eng
open Go.Proofs
set_option linter.unusedSimpArgs false
set_option linter.unusedVariables false
theorem wY {R : Nat → Prop} {w : World} {r : RNd} {x : NM} (h : mNode.rel R w r x) : r.1 = x.1 ∧ Sl dId R w r.2.1.1 r.2.1.2.1 r.2.1.2.2 x.2.1 ∧ Sl dStp R w r.2.2.1.1 r.2.2.1.2.1 r.2.2.1.2.2 x.2.2.1 ∧ Sl dStp R w r.2.2.2.1 r.2.2.2.2.1 r.2.2.2.2.2 x.2.2.2 := h
attribute [local irreducible] Hold J JL JD JX JXat OpR OpG Ret RetV Is Blk Row
set_option maxRecDepth 100000
set_option maxHeartbeats 2000000
end Go.Eng
end
section
namespace Go.Eng
open Go.Proofs
set_option linter.unusedSimpArgs false
set_option linter.unusedVariables false
attribute [local irreducible] Hold J JL JD JX JXat OpR OpG Ret RetV Is Blk Row
set_option maxRecDepth 100000
set_option maxHeartbeats 2000000
end Go.Eng
end
section
namespace Go.Eng
open Go.Proofs
set_option linter.unusedSimpArgs false
set_option linter.unusedVariables false
attribute [local irreducible] Hold J JL JD JX JXat OpR OpG Ret RetV Is Blk Row
set_option maxRecDepth 100000
set_option maxHeartbeats 2000000
end Go.Eng
end
section
namespace Go.Eng
open Go.Proofs
set_option linter.unusedSimpArgs false
set_option linter.unusedVariables false
abbrev z0 : RS := (none, 0, 0)
abbrev r00 : RNd := (false, z0, z0, z0)
abbrev rNew (q : RS) : RNd := (true, q, z0, z0)
theorem nil_sl {α : Type} (d : Ty α) (R : Nat → Prop) (w : World) : Sl d R w none 0 0 [] := ⟨Nat.le_refl _, by unfold maxLen; omega, fun _ => rfl, ⟨rfl, fun _ => rfl, fun h => absurd h (by omega), (fun b o h => by cases h), (fun i x h => by simp at h)⟩⟩
theorem Sl.to {α : Type} {d : Ty α} {R : Nat → Prop} {w : World} {a : Option Addr} {n c : Nat} {xs ys : List α} (e : xs = ys) (h : Sl d R w a n c xs) : Sl d R w a n c ys := e ▸ h
theorem qO (rs : List RNd) (k : Nat) (r : RNd) (hk : k < rs.length) : bQ (encL cNd rs) (k * 4) (cNd r) = encL cNd (rs.set k r) := (jZ (d := dRNd) rs k r hk).symm
attribute [local irreducible] Hold J JL JD JX JXat OpR OpG Ret RetV Is Blk Row
set_option maxRecDepth 100000
set_option maxHeartbeats 2000000
end Go.Eng
end
