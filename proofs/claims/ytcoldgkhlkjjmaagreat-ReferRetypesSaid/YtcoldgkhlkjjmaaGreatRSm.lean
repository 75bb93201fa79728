/- ReferRetypes: what was walked, lifted to the given statement, for every argument that the statement lets in. -/
import Derived.Test.YtcoldgkhlkjjmaaGreatRows
import Derived.Test.YtcoldgkhlkjjmaaGreatXA
import Derived.Test.YtcoldgkhlkjjmaaGreatE17
import Derived.WalkKit
import Derived.OpenShut
import Derived.ChangeOld
import Derived.Below
namespace Go.Proofs.YtcoldgkhlkjjmaaGreat.referRetypes
open Go.ChangeShapes Go.WideShapes Go.ChangeAt Go.RowKit Go.Eng
set_option linter.unusedVariables false
theorem own : ownKnob Tryz.prog.godebug = none := by kernel_rfl
theorem laidOut : laidOutB Tryz.prog = true := by kernel_rfl
theorem rd3 {H : Type} {enc : TypeId × Value → H} {W : World} : Reads H enc Tryz.prog W 3 (tInt .i64) := reads_int Tryz.underlying3
theorem rd29 {H : Type} {enc : TypeId × Value → H} {W : World} : Reads H enc Tryz.prog W 29 (tInt .u64) := reads_int Tryz.underlying29
theorem rd31 {H : Type} {enc : TypeId × Value → H} {W : World} : Reads H enc Tryz.prog W 31 (tPair (tInt .i64) (tInt .u64)) := reads_struct Tryz.underlying31 (by kernel_rfl) (rf_cons rfl (by kernel_rfl) rd3 (rf_one rfl (by kernel_rfl) rd29))
theorem rd23 {H : Type} {enc : TypeId × Value → H} {W : World} : Reads H enc Tryz.prog W 23 (tSl (tPair (tInt .i64) (tInt .u64))) := reads_sl Tryz.underlying23 (by kernel_rfl) (by decide) rd31
theorem rd116 {H : Type} {enc : TypeId × Value → H} {W : World} : Reads H enc Tryz.prog W 116 (tPair (tInt .i64) (tSl (tPair (tInt .i64) (tInt .u64)))) := reads_struct Tryz.underlying116 (by kernel_rfl) (rf_cons rfl (by kernel_rfl) rd3 (rf_one rfl (by kernel_rfl) rd23))
theorem rd22 {H : Type} {enc : TypeId × Value → H} {W : World} : Reads H enc Tryz.prog W 22 (tSl (tPair (tInt .i64) (tSl (tPair (tInt .i64) (tInt .u64))))) := reads_sl Tryz.underlying22 (by kernel_rfl) (by decide) rd116
theorem rd43 {H : Type} {enc : TypeId × Value → H} {W : World} : Reads H enc Tryz.prog W 43 (tSl (tInt .u64)) := reads_sl Tryz.underlying43 (by kernel_rfl) (by decide) rd29
theorem rd44 {H : Type} {enc : TypeId × Value → H} {W : World} : Reads H enc Tryz.prog W 44 (tArr 2 (tSl (tInt .u64))) := reads_arr Tryz.underlying44 (by kernel_rfl) (by kernel_rfl) rd43
set_option maxRecDepth 100000 in
theorem lifted (os : Os) (started : os.Started) (H : Type) (enc : TypeId × Value → H) :
    ReturnsInHanded {} Tryz.checked os 4 .any (Rows.referRetypesSpec.pre6 enc Tryz.prog Tryz.f4 Rows.referRetypesRow.domain false) (Rows.referRetypesSpec.post enc Tryz.prog Tryz.f4 false true false false) := by
  refine returnsInHanded_of_change (C := Tryz.checked) own started (by kernel_rfl) Tryz.func4
    (ChangeSpec.witness6 (enc := enc) (C := Tryz.checked) false ⟨#[], #[(.slice none 0 0), (.int .i64 0), (.agg #[.slice none 0 0, .slice none 0 0])], []⟩ 12 (by kernel_rfl) (by kernel_rfl) (by kernel_rfl) (by kernel_rfl)) ?_
  intro W base args ds gs before hval0 hW hcnd _
  have hval : ∀ (j : Nat) t v, Tryz.f4.params[j]? = some t → args[j]? = some v → Value.okWide Tryz.prog W .any base t v := hval0
  have hW' := hW
  obtain ⟨p, q, hA0, hV, rfl, hfz, hnd⟩ := hW
  have hA : DataW.TrodAll enc Tryz.prog W 0 (fun _ => true) true Tryz.f4.params.toList args.toList ds p := hA0
  rw [Tryz.params4] at hA hval
  obtain ⟨v0, vs0, d0, ds0, p0, q0, hargs, rfl, rfl, h0, r0⟩ := trodAll_cons hA
  obtain ⟨v1, vs1, d1, ds1, p1, q1, rfl, rfl, rfl, h1, r1⟩ := trodAll_cons r0
  obtain ⟨v2, vs2, d2, ds2, p2, q2, rfl, rfl, rfl, h2, r2⟩ := trodAll_cons r1
  obtain ⟨rfl, rfl, rfl⟩ := trodAll_nil r2
  obtain rfl : args = #[v0, v1, v2] := by cases args; simp_all
  obtain ⟨rfl, rfl⟩ := trodVars_none hV
  have k0 := h0
  have k1 := h1
  have k2 := h2
  have lt0 : ∀ x ∈ p0, x.block < W.heap.size := by obtain ⟨m, hm⟩ := k0; exact DataW.trod_lt m _ _ _ hm
  have lt1 : ∀ x ∈ p1, x.block < W.heap.size := by obtain ⟨m, hm⟩ := k1; exact DataW.trod_lt m _ _ _ hm
  have lt2 : ∀ x ∈ p2, x.block < W.heap.size := by obtain ⟨m, hm⟩ := k2; exact DataW.trod_lt m _ _ _ hm
  -- argument 0
  obtain ⟨y0_, hy0_⟩ := (rd22 (H := H) (enc := enc) (W := W)).arg h0
  obtain ⟨a0_, n0_, c0_, rfl⟩ := okWide_slice Tryz.underlying22 (hval 0 22 v0 rfl rfl)
  obtain ⟨a0', n0', c0', e0_, g0_⟩ := rep_sl hy0_
  obtain ⟨rfl, rfl, rfl⟩ : a0_ = a0' ∧ n0_ = n0' ∧ c0_ = c0' := by injection e0_ with e _; injection e with e1 e2 e3; exact ⟨e1, e2, e3⟩
  -- argument 1
  obtain ⟨y1_, hy1_⟩ := (rd3 (H := H) (enc := enc) (W := W)).arg h1
  obtain ⟨x1_, rfl⟩ := okWide_int Tryz.underlying3 (hval 1 3 v1 rfl rfl)
  obtain ⟨e1_, g1_⟩ := rep_int hy1_
  obtain rfl : x1_ = y1_ := by injection e1_ with e _; injection e
  -- argument 2
  obtain ⟨y2_, hy2_⟩ := (rd44 (H := H) (enc := enc) (W := W)).arg h2
  obtain ⟨cs2_, rfl, -⟩ := okWide_array Tryz.underlying44 (hval 2 44 v2 rfl rfl)
  obtain ⟨l2_, rfl⟩ : ∃ l, cs2_ = List.toArray l := ⟨cs2_.toList, by simp⟩
  replace hy2_ : (tArr 2 (tSl (tInt .u64))).rep All W l2_ y2_ := hy2_
  obtain ⟨d1, d2, y3, y4, rfl, rfl, h5, h6⟩ := rep_arr_cons hy2_
  obtain ⟨a7, n8, c9, rfl, g10⟩ := rep_sl h5
  obtain ⟨d11, d12, y13, y14, rfl, rfl, h15, h16⟩ := rep_arr_cons h6
  obtain ⟨a17, n18, c19, rfl, g20⟩ := rep_sl h15
  obtain ⟨rfl, rfl⟩ := rep_arr_nil h16
  clear hA0 hval0
  refine (referRetypes_w W a0_ n0_ c0_ y0_ x1_ a7 n8 c9 y3 a17 n18 c19 y13 g0_ g1_ g10 g20).calls.mono fun e W' hh => ?_
  obtain ⟨v, rfl, rfl, bel⟩ := hh
  have bel : Below W.heap.size W W' := bel.below
  exact ⟨_, rfl, _, _, _, [], _, [], hW', trodAll_mk1 (shut_bool Tryz.underlying4 _), (trodAll_cons_mk (Below.trod laidOut (by kernel_rfl) (of_decide_eq_true (by kernel_rfl)) k0 bel lt0) (trodAll_cons_mk (Below.trod laidOut (by kernel_rfl) (of_decide_eq_true (by kernel_rfl)) k1 bel lt1) (trodAll_cons_mk (Below.trod laidOut (by kernel_rfl) (of_decide_eq_true (by kernel_rfl)) k2 bel lt2) trodAll_mk0))), rfl, bel.frame _, fun h => by cases h⟩
theorem over : Rows.referRetypesRow.holds Tryz.pinned (OpenSpec.ofChange Rows.referRetypesSpec) :=
  OpenClaim.holds_of_wide 4 Tryz.f4 rfl rfl rfl rfl rfl rfl rfl ⟨rfl, rfl, rfl, rfl, rfl⟩ rfl rfl rfl rfl rfl (by kernel_rfl) Tryz.func4 (by kernel_rfl)
    (of_decide_eq_true (by kernel_rfl)) (by unfold Func.isWrapper; first | (rw [if_pos (by decide +kernel)]; kernel_rfl) | (rw [if_neg (by decide +kernel)]; exact ⟨rfl, rfl⟩))
    (fun os started H enc _ => lifted os started H enc)
theorem proved : Rows.ReferRetypesSaid := over
end Go.Proofs.YtcoldgkhlkjjmaaGreat.referRetypes
namespace Go.Proofs.YtcoldgkhlkjjmaaGreat
/-- The row, under a short name, for the claim. -/
theorem referRetypes_holds : Rows.ReferRetypesSaid := referRetypes.proved
#print axioms referRetypes_holds
end Go.Proofs.YtcoldgkhlkjjmaaGreat
