/- LookupOrder: what was walked, lifted to the given statement, for every argument that the statement lets in. -/
import Derived.Test.YtcoldgkhlkjjmaaRows
import Derived.Test.YtcoldgkhlkjjmaaY8
import Derived.Test.YtcoldgkhlkjjmaaE17
import Derived.WalkKit
import Derived.OpenShut
import Derived.ChangeOld
import Derived.Below
namespace Go.Proofs.Ytcoldgkhlkjjmaa.lookupOrder
open Go.ChangeShapes Go.WideShapes Go.ChangeAt Go.RowKit Go.Eng
set_option linter.unusedVariables false
theorem own : ownKnob Try.prog.godebug = none := by kernel_rfl
theorem laidOut : laidOutB Try.prog = true := by kernel_rfl
theorem rd41 {H : Type} {enc : TypeId × Value → H} {W : World} : Reads H enc Try.prog W 41 (tInt .u64) := reads_int Try.underlying41
theorem rd34 {H : Type} {enc : TypeId × Value → H} {W : World} : Reads H enc Try.prog W 34 (tSl (tInt .u64)) := reads_sl Try.underlying34 (by kernel_rfl) (by decide) rd41
theorem rd25 {H : Type} {enc : TypeId × Value → H} {W : World} : Reads H enc Try.prog W 25 (tSl (tSl (tInt .u64))) := reads_sl Try.underlying25 (by kernel_rfl) (by decide) rd34
set_option maxRecDepth 100000 in
theorem lifted (os : Os) (started : os.Started) (H : Type) (enc : TypeId × Value → H) :
    ReturnsInHanded {} Try.checked os 5 .any (Rows.lookupOrderSpec.pre6 enc Try.prog Try.f5 Rows.lookupOrderRow.domain false) (Rows.lookupOrderSpec.post enc Try.prog Try.f5 false true false false) := by
  refine returnsInHanded_of_change (C := Try.checked) own started (by kernel_rfl) Try.func5
    (ChangeSpec.witness6 (enc := enc) (C := Try.checked) false ⟨#[], #[(.slice none 0 0)], []⟩ 12 (by kernel_rfl) (by kernel_rfl) (by kernel_rfl) (by kernel_rfl)) ?_
  intro W base args ds gs before hval0 hW hcnd _
  have hval : ∀ (j : Nat) t v, Try.f5.params[j]? = some t → args[j]? = some v → Value.okWide Try.prog W .any base t v := hval0
  have hW' := hW
  obtain ⟨p, q, hA0, hV, rfl, hfz, hnd⟩ := hW
  have hA : DataW.TrodAll enc Try.prog W 0 (fun _ => true) true Try.f5.params.toList args.toList ds p := hA0
  rw [Try.params5] at hA hval
  obtain ⟨v0, vs0, d0, ds0, p0, q0, hargs, rfl, rfl, h0, r0⟩ := trodAll_cons hA
  obtain ⟨rfl, rfl, rfl⟩ := trodAll_nil r0
  obtain rfl : args = #[v0] := by cases args; simp_all
  obtain ⟨rfl, rfl⟩ := trodVars_none hV
  have k0 := h0
  have lt0 : ∀ x ∈ p0, x.block < W.heap.size := by obtain ⟨m, hm⟩ := k0; exact DataW.trod_lt m _ _ _ hm
  -- argument 0
  obtain ⟨y0_, hy0_⟩ := (rd25 (H := H) (enc := enc) (W := W)).arg h0
  obtain ⟨a0_, n0_, c0_, rfl⟩ := okWide_slice Try.underlying25 (hval 0 25 v0 rfl rfl)
  obtain ⟨a0', n0', c0', e0_, g0_⟩ := rep_sl hy0_
  obtain ⟨rfl, rfl, rfl⟩ : a0_ = a0' ∧ n0_ = n0' ∧ c0_ = c0' := by injection e0_ with e _; injection e with e1 e2 e3; exact ⟨e1, e2, e3⟩
  clear hA0 hval0
  refine (lookupOrder_w W a0_ n0_ c0_ y0_ g0_).calls.mono fun e W' hh => ?_
  obtain ⟨v, rfl, rfl, bel⟩ := hh
  have bel : Below W.heap.size W W' := bel.below
  exact ⟨_, rfl, _, _, _, [], _, [], hW', trodAll_mk1 (shut_bool Try.underlying4 _), (trodAll_cons_mk (Below.trod laidOut (by kernel_rfl) (of_decide_eq_true (by kernel_rfl)) k0 bel lt0) trodAll_mk0), rfl, bel.frame _, fun h => by cases h⟩
theorem over : Rows.lookupOrderRow.holds Try.pinned (OpenSpec.ofChange Rows.lookupOrderSpec) :=
  OpenClaim.holds_of_wide 5 Try.f5 rfl rfl rfl rfl rfl rfl rfl ⟨rfl, rfl, rfl, rfl, rfl⟩ rfl rfl rfl rfl rfl (by kernel_rfl) Try.func5 (by kernel_rfl)
    (of_decide_eq_true (by kernel_rfl)) (by unfold Func.isWrapper; first | (rw [if_pos (by decide +kernel)]; kernel_rfl) | (rw [if_neg (by decide +kernel)]; exact ⟨rfl, rfl⟩))
    (fun os started H enc _ => lifted os started H enc)
theorem proved : Rows.LookupOrderSaid := over
end Go.Proofs.Ytcoldgkhlkjjmaa.lookupOrder
namespace Go.Proofs.Ytcoldgkhlkjjmaa
/-- The row, under a short name, for the claim. -/
theorem lookupOrder_holds : Rows.LookupOrderSaid := lookupOrder.proved
#print axioms lookupOrder_holds
end Go.Proofs.Ytcoldgkhlkjjmaa
