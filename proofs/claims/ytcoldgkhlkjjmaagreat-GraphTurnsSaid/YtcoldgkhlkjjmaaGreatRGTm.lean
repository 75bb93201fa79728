/- GraphTurns: what was walked, lifted to the given statement, for every argument that the statement lets in. -/
import Derived.Test.YtcoldgkhlkjjmaaGreatRows
import Derived.WalkKit
import Derived.OpenShut
import Derived.ChangeOld
import Derived.Below
import Derived.Test.YtcoldgkhlkjjmaaGreatW7
namespace Go.Proofs.YtcoldgkhlkjjmaaGreat.graphTurns
open Go.ChangeShapes Go.WideShapes Go.ChangeAt Go.RowKit Go.Eng
set_option linter.unusedVariables false
theorem own : ownKnob Tryz.prog.godebug = none := by kernel_rfl
theorem laidOut : laidOutB Tryz.prog = true := by kernel_rfl
theorem rd4 {H : Type} {enc : TypeId × Value → H} {W : World} : Reads H enc Tryz.prog W 4 tBool := reads_bool Tryz.underlying4
theorem rd29 {H : Type} {enc : TypeId × Value → H} {W : World} : Reads H enc Tryz.prog W 29 (tInt .u64) := reads_int Tryz.underlying29
theorem rd43 {H : Type} {enc : TypeId × Value → H} {W : World} : Reads H enc Tryz.prog W 43 (tSl (tInt .u64)) := reads_sl Tryz.underlying43 (by kernel_rfl) (by decide) rd29
theorem rd3 {H : Type} {enc : TypeId × Value → H} {W : World} : Reads H enc Tryz.prog W 3 (tInt .i64) := reads_int Tryz.underlying3
theorem rd93 {H : Type} {enc : TypeId × Value → H} {W : World} : Reads H enc Tryz.prog W 93 (tPair (tInt .u64) (tInt .i64)) := reads_struct Tryz.underlying93 (by kernel_rfl) (rf_cons rfl (by kernel_rfl) rd29 (rf_one rfl (by kernel_rfl) rd3))
theorem rd77 {H : Type} {enc : TypeId × Value → H} {W : World} : Reads H enc Tryz.prog W 77 (tSl (tPair (tInt .u64) (tInt .i64))) := reads_sl Tryz.underlying77 (by kernel_rfl) (by decide) rd93
theorem rd79 {H : Type} {enc : TypeId × Value → H} {W : World} : Reads H enc Tryz.prog W 79 (tPair tBool (tPair (tSl (tInt .u64)) (tPair (tSl (tPair (tInt .u64) (tInt .i64))) (tSl (tPair (tInt .u64) (tInt .i64)))))) := reads_struct Tryz.underlying79 (by kernel_rfl) (rf_cons rfl (by kernel_rfl) rd4 (rf_cons rfl (by kernel_rfl) rd43 (rf_cons rfl (by kernel_rfl) rd77 (rf_one rfl (by kernel_rfl) rd77))))
theorem rd52 {H : Type} {enc : TypeId × Value → H} {W : World} : Reads H enc Tryz.prog W 52 (tSl (tPair tBool (tPair (tSl (tInt .u64)) (tPair (tSl (tPair (tInt .u64) (tInt .i64))) (tSl (tPair (tInt .u64) (tInt .i64))))))) := reads_sl Tryz.underlying52 (by kernel_rfl) (by decide) rd79
theorem rd139 {H : Type} {enc : TypeId × Value → H} {W : World} : Reads H enc Tryz.prog W 139 (tPair (tInt .i64) (tPair (tSl (tInt .u64)) (tInt .i64))) := reads_struct Tryz.underlying139 (by kernel_rfl) (rf_cons rfl (by kernel_rfl) rd3 (rf_cons rfl (by kernel_rfl) rd43 (rf_one rfl (by kernel_rfl) rd3)))
theorem rd53 {H : Type} {enc : TypeId × Value → H} {W : World} : Reads H enc Tryz.prog W 53 (tSl (tPair (tInt .i64) (tPair (tSl (tInt .u64)) (tInt .i64)))) := reads_sl Tryz.underlying53 (by kernel_rfl) (by decide) rd139
theorem rd55 {H : Type} {enc : TypeId × Value → H} {W : World} : Reads H enc Tryz.prog W 55 (tSl (tPair (tInt .i64) (tPair (tSl (tInt .u64)) (tInt .i64)))) := reads_struct Tryz.underlying55 (by kernel_rfl) (rf_one rfl (by kernel_rfl) rd53)
theorem rd57 {H : Type} {enc : TypeId × Value → H} {W : World} : Reads H enc Tryz.prog W 57 (tPair (tSl (tPair tBool (tPair (tSl (tInt .u64)) (tPair (tSl (tPair (tInt .u64) (tInt .i64))) (tSl (tPair (tInt .u64) (tInt .i64))))))) (tSl (tPair (tInt .i64) (tPair (tSl (tInt .u64)) (tInt .i64))))) := reads_struct Tryz.underlying57 (by kernel_rfl) (rf_cons rfl (by kernel_rfl) rd52 (rf_one rfl (by kernel_rfl) rd55))
theorem rd61 {H : Type} {enc : TypeId × Value → H} {W : World} : Reads H enc Tryz.prog W 61 (tPair (tInt .i64) (tPair (tInt .i64) (tPair (tInt .u64) (tSl (tInt .u64))))) := reads_struct Tryz.underlying61 (by kernel_rfl) (rf_cons rfl (by kernel_rfl) rd3 (rf_cons rfl (by kernel_rfl) rd3 (rf_cons rfl (by kernel_rfl) rd29 (rf_one rfl (by kernel_rfl) rd43))))
theorem rd58 {H : Type} {enc : TypeId × Value → H} {W : World} : Reads H enc Tryz.prog W 58 (tSl (tPair (tInt .i64) (tPair (tInt .i64) (tPair (tInt .u64) (tSl (tInt .u64)))))) := reads_sl Tryz.underlying58 (by kernel_rfl) (by decide) rd61
set_option maxRecDepth 100000 in
theorem lifted (os : Os) (started : os.Started) (H : Type) (enc : TypeId × Value → H) :
    ReturnsInHanded {} Tryz.checked os 5 .any (Rows.graphTurnsSpec.pre6 enc Tryz.prog Tryz.f5 Rows.graphTurnsRow.domain false) (Rows.graphTurnsSpec.post enc Tryz.prog Tryz.f5 false true false false) := by
  refine returnsInHanded_of_change (C := Tryz.checked) own started (by kernel_rfl) Tryz.func5
    (ChangeSpec.witness6 (enc := enc) (C := Tryz.checked) false ⟨#[], #[(.agg #[.slice none 0 0, .slice none 0 0]), (.slice none 0 0)], []⟩ 12 (by kernel_rfl) (by kernel_rfl) (by kernel_rfl) (by kernel_rfl)) ?_
  intro W base args ds gs before hval0 hW hcnd _
  have hval : ∀ (j : Nat) t v, Tryz.f5.params[j]? = some t → args[j]? = some v → Value.okWide Tryz.prog W .any base t v := hval0
  have hW' := hW
  obtain ⟨p, q, hA0, hV, rfl, hfz, hnd⟩ := hW
  have hA : DataW.TrodAll enc Tryz.prog W 0 (fun _ => true) true Tryz.f5.params.toList args.toList ds p := hA0
  rw [Tryz.params5] at hA hval
  obtain ⟨v0, vs0, d0, ds0, p0, q0, hargs, rfl, rfl, h0, r0⟩ := trodAll_cons hA
  obtain ⟨v1, vs1, d1, ds1, p1, q1, rfl, rfl, rfl, h1, r1⟩ := trodAll_cons r0
  obtain ⟨rfl, rfl, rfl⟩ := trodAll_nil r1
  obtain rfl : args = #[v0, v1] := by cases args; simp_all
  obtain ⟨rfl, rfl⟩ := trodVars_none hV
  have k0 := h0
  have k1 := h1
  have lt0 : ∀ x ∈ p0, x.block < W.heap.size := by obtain ⟨m, hm⟩ := k0; exact DataW.trod_lt m _ _ _ hm
  have lt1 : ∀ x ∈ p1, x.block < W.heap.size := by obtain ⟨m, hm⟩ := k1; exact DataW.trod_lt m _ _ _ hm
  -- argument 0
  obtain ⟨y0_, hy0_⟩ := (rd57 (H := H) (enc := enc) (W := W)).arg h0
  obtain ⟨cs0_, rfl, -⟩ := okWide_struct Tryz.underlying57 (hval 0 57 v0 rfl rfl)
  obtain ⟨l0_, rfl⟩ : ∃ l, cs0_ = List.toArray l := ⟨cs0_.toList, by simp⟩
  replace hy0_ : (tPair (tSl (tPair tBool (tPair (tSl (tInt .u64)) (tPair (tSl (tPair (tInt .u64) (tInt .i64))) (tSl (tPair (tInt .u64) (tInt .i64))))))) (tSl (tPair (tInt .i64) (tPair (tSl (tInt .u64)) (tInt .i64))))).rep All W l0_ y0_ := hy0_
  obtain ⟨y5, y6⟩ := y0_
  obtain ⟨d1, d2, rfl, h3, h4⟩ := rep_pair hy0_
  dsimp only at h3 h4
  obtain ⟨a7, n8, c9, rfl, g10⟩ := rep_sl h3
  obtain ⟨a11, n12, c13, rfl, g14⟩ := rep_sl h4
  -- argument 1
  obtain ⟨y1_, hy1_⟩ := (rd58 (H := H) (enc := enc) (W := W)).arg h1
  obtain ⟨a1_, n1_, c1_, rfl⟩ := okWide_slice Tryz.underlying58 (hval 1 58 v1 rfl rfl)
  obtain ⟨a1', n1', c1', e1_, g1_⟩ := rep_sl hy1_
  obtain ⟨rfl, rfl, rfl⟩ : a1_ = a1' ∧ n1_ = n1' ∧ c1_ = c1' := by injection e1_ with e _; injection e with e1 e2 e3; exact ⟨e1, e2, e3⟩
  clear hA0 hval0
  refine (graphTurns_w W a7 n8 c9 y5 a11 n12 c13 y6 a1_ n1_ c1_ y1_ g10 g14 g1_).calls.mono fun e W' hh => ?_
  obtain ⟨v, rfl, rfl, bel⟩ := hh
  have bel : Below W.heap.size W W' := bel.below
  exact ⟨_, rfl, _, _, _, [], _, [], hW', trodAll_mk1 (shut_bool Tryz.underlying4 _), (trodAll_cons_mk (Below.trod laidOut (by kernel_rfl) (of_decide_eq_true (by kernel_rfl)) k0 bel lt0) (trodAll_cons_mk (Below.trod laidOut (by kernel_rfl) (of_decide_eq_true (by kernel_rfl)) k1 bel lt1) trodAll_mk0)), rfl, bel.frame _, fun h => by cases h⟩
theorem over : Rows.graphTurnsRow.holds Tryz.pinned (OpenSpec.ofChange Rows.graphTurnsSpec) :=
  OpenClaim.holds_of_wide 5 Tryz.f5 rfl rfl rfl rfl rfl rfl rfl ⟨rfl, rfl, rfl, rfl, rfl⟩ rfl rfl rfl rfl rfl (by kernel_rfl) Tryz.func5 (by kernel_rfl)
    (of_decide_eq_true (by kernel_rfl)) (by unfold Func.isWrapper; first | (rw [if_pos (by decide +kernel)]; kernel_rfl) | (rw [if_neg (by decide +kernel)]; exact ⟨rfl, rfl⟩))
    (fun os started H enc _ => lifted os started H enc)
theorem proved : Rows.GraphTurnsSaid := over
end Go.Proofs.YtcoldgkhlkjjmaaGreat.graphTurns
namespace Go.Proofs.YtcoldgkhlkjjmaaGreat
/-- The row, under a short name, for the claim. -/
theorem graphTurns_holds : Rows.GraphTurnsSaid := graphTurns.proved
#print axioms graphTurns_holds
end Go.Proofs.YtcoldgkhlkjjmaaGreat
