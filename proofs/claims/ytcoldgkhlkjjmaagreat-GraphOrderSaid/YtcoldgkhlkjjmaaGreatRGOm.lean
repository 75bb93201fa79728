/- GraphOrder: what was walked, lifted to the given statement, for every argument that the statement lets in. -/
import Derived.Test.YtcoldgkhlkjjmaaGreatRows
import Derived.WalkKit
import Derived.OpenShut
import Derived.ChangeOld
import Derived.Below
import Derived.Test.YtcoldgkhlkjjmaaGreatO5
namespace Go.Proofs.YtcoldgkhlkjjmaaGreat.graphOrder
open Go.ChangeShapes Go.WideShapes Go.ChangeAt Go.RowKit Go.Eng
set_option linter.unusedVariables false
theorem own : ownKnob Tryz.prog.godebug = none := by kernel_rfl
theorem laidOut : laidOutB Tryz.prog = true := by kernel_rfl
theorem rd29 {H : Type} {enc : TypeId × Value → H} {W : World} : Reads H enc Tryz.prog W 29 (tInt .u64) := reads_int Tryz.underlying29
theorem rd43 {H : Type} {enc : TypeId × Value → H} {W : World} : Reads H enc Tryz.prog W 43 (tSl (tInt .u64)) := reads_sl Tryz.underlying43 (by kernel_rfl) (by decide) rd29
theorem rd95 {H : Type} {enc : TypeId × Value → H} {W : World} : Reads H enc Tryz.prog W 95 (tSl (tSl (tInt .u64))) := reads_sl Tryz.underlying95 (by kernel_rfl) (by decide) rd43
theorem rd3 {H : Type} {enc : TypeId × Value → H} {W : World} : Reads H enc Tryz.prog W 3 (tInt .i64) := reads_int Tryz.underlying3
set_option maxRecDepth 100000 in
theorem lifted (os : Os) (started : os.Started) (H : Type) (enc : TypeId × Value → H) :
    ReturnsInHanded {} Tryz.checked os 9 .any (Rows.graphOrderSpec.pre6 enc Tryz.prog Tryz.f9 Rows.graphOrderRow.domain false) (Rows.graphOrderSpec.post enc Tryz.prog Tryz.f9 false true false false) := by
  refine returnsInHanded_of_change (C := Tryz.checked) own started (by kernel_rfl) Tryz.func9
    (ChangeSpec.witness6 (enc := enc) (C := Tryz.checked) false ⟨#[], #[(.slice none 0 0), (.int .i64 0)], []⟩ 12 (by kernel_rfl) (by kernel_rfl) (by kernel_rfl) (by kernel_rfl)) ?_
  intro W base args ds gs before hval0 hW hcnd _
  have hval : ∀ (j : Nat) t v, Tryz.f9.params[j]? = some t → args[j]? = some v → Value.okWide Tryz.prog W .any base t v := hval0
  have hW' := hW
  obtain ⟨p, q, hA0, hV, rfl, hfz, hnd⟩ := hW
  have hA : DataW.TrodAll enc Tryz.prog W 0 (fun _ => true) true Tryz.f9.params.toList args.toList ds p := hA0
  rw [Tryz.params9] at hA hval
  obtain ⟨v0, vs0, d0, ds0, p0, q0, hargs, rfl, rfl, h0, r0⟩ := trodAll_cons hA
  obtain ⟨v1, vs1, d1, ds1, p1, q1, rfl, rfl, rfl, h1, r1⟩ := trodAll_cons r0
  obtain ⟨rfl, rfl, rfl⟩ := trodAll_nil r1
  obtain rfl : args = #[v0, v1] := by cases args; simp_all
  obtain ⟨rfl, rfl⟩ := trodVars_none hV
  have k0 := h0
  have k1 := h1
  have lt0 : ∀ x ∈ p0, x.block < W.heap.size := by obtain ⟨m, hm⟩ := k0; exact DataW.trod_lt m _ _ _ hm
  have lt1 : ∀ x ∈ p1, x.block < W.heap.size := by obtain ⟨m, hm⟩ := k1; exact DataW.trod_lt m _ _ _ hm
  -- argument 0
  obtain ⟨y0_, hy0_⟩ := (rd95 (H := H) (enc := enc) (W := W)).arg h0
  obtain ⟨a0_, n0_, c0_, rfl⟩ := okWide_slice Tryz.underlying95 (hval 0 95 v0 rfl rfl)
  obtain ⟨a0', n0', c0', e0_, g0_⟩ := rep_sl hy0_
  obtain ⟨rfl, rfl, rfl⟩ : a0_ = a0' ∧ n0_ = n0' ∧ c0_ = c0' := by injection e0_ with e _; injection e with e1 e2 e3; exact ⟨e1, e2, e3⟩
  -- argument 1
  obtain ⟨y1_, hy1_⟩ := (rd3 (H := H) (enc := enc) (W := W)).arg h1
  obtain ⟨x1_, rfl⟩ := okWide_int Tryz.underlying3 (hval 1 3 v1 rfl rfl)
  obtain ⟨e1_, g1_⟩ := rep_int hy1_
  obtain rfl : x1_ = y1_ := by injection e1_ with e _; injection e
  clear hA0 hval0
  refine (graphOrder_w W a0_ n0_ c0_ y0_ x1_ g0_ g1_).calls.mono fun e W' hh => ?_
  obtain ⟨v, rfl, rfl, bel⟩ := hh
  have bel : Below W.heap.size W W' := bel.below
  exact ⟨_, rfl, _, _, _, [], _, [], hW', trodAll_mk1 (shut_bool Tryz.underlying4 _), (trodAll_cons_mk (Below.trod laidOut (by kernel_rfl) (of_decide_eq_true (by kernel_rfl)) k0 bel lt0) (trodAll_cons_mk (Below.trod laidOut (by kernel_rfl) (of_decide_eq_true (by kernel_rfl)) k1 bel lt1) trodAll_mk0)), rfl, bel.frame _, fun h => by cases h⟩
theorem over : Rows.graphOrderRow.holds Tryz.pinned (OpenSpec.ofChange Rows.graphOrderSpec) :=
  OpenClaim.holds_of_wide 9 Tryz.f9 rfl rfl rfl rfl rfl rfl rfl ⟨rfl, rfl, rfl, rfl, rfl⟩ rfl rfl rfl rfl rfl (by kernel_rfl) Tryz.func9 (by kernel_rfl)
    (of_decide_eq_true (by kernel_rfl)) (by unfold Func.isWrapper; first | (rw [if_pos (by decide +kernel)]; kernel_rfl) | (rw [if_neg (by decide +kernel)]; exact ⟨rfl, rfl⟩))
    (fun os started H enc _ => lifted os started H enc)
theorem proved : Rows.GraphOrderSaid := over
end Go.Proofs.YtcoldgkhlkjjmaaGreat.graphOrder
namespace Go.Proofs.YtcoldgkhlkjjmaaGreat
/-- The row, under a short name, for the claim. -/
theorem graphOrder_holds : Rows.GraphOrderSaid := graphOrder.proved
#print axioms graphOrder_holds
end Go.Proofs.YtcoldgkhlkjjmaaGreat
