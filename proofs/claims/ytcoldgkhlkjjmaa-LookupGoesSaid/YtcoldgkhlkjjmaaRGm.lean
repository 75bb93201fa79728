/- LookupGoes: what was walked, lifted to the given statement, for every argument that the statement lets in. -/
import Derived.Test.YtcoldgkhlkjjmaaRows
import Derived.Test.YtcoldgkhlkjjmaaY9
import Derived.Test.YtcoldgkhlkjjmaaE17
import Derived.WalkKit
import Derived.OpenShut
import Derived.ChangeOld
import Derived.Below
namespace Go.Proofs.Ytcoldgkhlkjjmaa.lookupGoes
open Go.ChangeShapes Go.WideShapes Go.ChangeAt Go.RowKit Go.Eng
set_option linter.unusedVariables false
theorem own : ownKnob Try.prog.godebug = none := by kernel_rfl
theorem laidOut : laidOutB Try.prog = true := by kernel_rfl
theorem rd3 {H : Type} {enc : TypeId × Value → H} {W : World} : Reads H enc Try.prog W 3 (tInt .i64) := reads_int Try.underlying3
theorem rd41 {H : Type} {enc : TypeId × Value → H} {W : World} : Reads H enc Try.prog W 41 (tInt .u64) := reads_int Try.underlying41
theorem rd34 {H : Type} {enc : TypeId × Value → H} {W : World} : Reads H enc Try.prog W 34 (tSl (tInt .u64)) := reads_sl Try.underlying34 (by kernel_rfl) (by decide) rd41
theorem rd39 {H : Type} {enc : TypeId × Value → H} {W : World} : Reads H enc Try.prog W 39 (tPair (tInt .i64) (tPair (tSl (tInt .u64)) (tInt .i64))) := reads_struct Try.underlying39 (by kernel_rfl) (rf_cons rfl (by kernel_rfl) rd3 (rf_cons rfl (by kernel_rfl) rd34 (rf_one rfl (by kernel_rfl) rd3)))
theorem rd22 {H : Type} {enc : TypeId × Value → H} {W : World} : Reads H enc Try.prog W 22 (tSl (tPair (tInt .i64) (tPair (tSl (tInt .u64)) (tInt .i64)))) := reads_sl Try.underlying22 (by kernel_rfl) (by decide) rd39
theorem rd24 {H : Type} {enc : TypeId × Value → H} {W : World} : Reads H enc Try.prog W 24 (tSl (tPair (tInt .i64) (tPair (tSl (tInt .u64)) (tInt .i64)))) := reads_struct Try.underlying24 (by kernel_rfl) (rf_one rfl (by kernel_rfl) rd22)
theorem rd4 {H : Type} {enc : TypeId × Value → H} {W : World} : Reads H enc Try.prog W 4 tBool := reads_bool Try.underlying4
theorem rd46 {H : Type} {enc : TypeId × Value → H} {W : World} : Reads H enc Try.prog W 46 (tPair tBool (tPair (tSl (tInt .u64)) (tInt .i64))) := reads_struct Try.underlying46 (by kernel_rfl) (rf_cons rfl (by kernel_rfl) rd4 (rf_cons rfl (by kernel_rfl) rd34 (rf_one rfl (by kernel_rfl) rd3)))
theorem rd44 {H : Type} {enc : TypeId × Value → H} {W : World} : Reads H enc Try.prog W 44 (tSl (tPair tBool (tPair (tSl (tInt .u64)) (tInt .i64)))) := reads_sl Try.underlying44 (by kernel_rfl) (by decide) rd46
set_option maxRecDepth 100000 in
theorem lifted (os : Os) (started : os.Started) (H : Type) (enc : TypeId × Value → H) :
    ReturnsInHanded {} Try.checked os 4 .any (Rows.lookupGoesSpec.pre6 enc Try.prog Try.f4 Rows.lookupGoesRow.domain false) (Rows.lookupGoesSpec.post enc Try.prog Try.f4 false true false false) := by
  refine returnsInHanded_of_change (C := Try.checked) own started (by kernel_rfl) Try.func4
    (ChangeSpec.witness6 (enc := enc) (C := Try.checked) false ⟨#[], #[(.agg #[.slice none 0 0]), (.slice none 0 0)], []⟩ 12 (by kernel_rfl) (by kernel_rfl) (by kernel_rfl) (by kernel_rfl)) ?_
  intro W base args ds gs before hval0 hW hcnd _
  have hval : ∀ (j : Nat) t v, Try.f4.params[j]? = some t → args[j]? = some v → Value.okWide Try.prog W .any base t v := hval0
  have hW' := hW
  obtain ⟨p, q, hA0, hV, rfl, hfz, hnd⟩ := hW
  have hA : DataW.TrodAll enc Try.prog W 0 (fun _ => true) true Try.f4.params.toList args.toList ds p := hA0
  rw [Try.params4] at hA hval
  obtain ⟨v0, vs0, d0, ds0, p0, q0, hargs, rfl, rfl, h0, r0⟩ := trodAll_cons hA
  obtain ⟨v1, vs1, d1, ds1, p1, q1, rfl, rfl, rfl, h1, r1⟩ := trodAll_cons r0
  obtain ⟨rfl, rfl, rfl⟩ := trodAll_nil r1
  obtain rfl : args = #[v0, v1] := by cases args; simp_all
  obtain ⟨rfl, rfl⟩ := trodVars_none hV
  have k0 := h0
  have k1 := h1
  have lt0 : ∀ x ∈ p0, x.block < W.heap.size := by obtain ⟨m, hm⟩ := k0; exact DataW.trod_lt m _ _ _ hm
  have lt1 : ∀ x ∈ p1, x.block < W.heap.size := by obtain ⟨m, hm⟩ := k1; exact DataW.trod_lt m _ _ _ hm
  -- argument 0
  obtain ⟨y0_, hy0_⟩ := (rd24 (H := H) (enc := enc) (W := W)).arg h0
  obtain ⟨cs0_, rfl, -⟩ := okWide_struct Try.underlying24 (hval 0 24 v0 rfl rfl)
  obtain ⟨l0_, rfl⟩ : ∃ l, cs0_ = List.toArray l := ⟨cs0_.toList, by simp⟩
  replace hy0_ : (tSl (tPair (tInt .i64) (tPair (tSl (tInt .u64)) (tInt .i64)))).rep All W l0_ y0_ := hy0_
  obtain ⟨a1, n2, c3, rfl, g4⟩ := rep_sl hy0_
  -- argument 1
  obtain ⟨y1_, hy1_⟩ := (rd44 (H := H) (enc := enc) (W := W)).arg h1
  obtain ⟨a1_, n1_, c1_, rfl⟩ := okWide_slice Try.underlying44 (hval 1 44 v1 rfl rfl)
  obtain ⟨a1', n1', c1', e1_, g1_⟩ := rep_sl hy1_
  obtain ⟨rfl, rfl, rfl⟩ : a1_ = a1' ∧ n1_ = n1' ∧ c1_ = c1' := by injection e1_ with e _; injection e with e1 e2 e3; exact ⟨e1, e2, e3⟩
  clear hA0 hval0
  refine (lookupGoes_w W a1 n2 c3 y0_ a1_ n1_ c1_ y1_ g4 g1_).calls.mono fun e W' hh => ?_
  obtain ⟨v, rfl, rfl, bel⟩ := hh
  have bel : Below W.heap.size W W' := bel.below
  exact ⟨_, rfl, _, _, _, [], _, [], hW', trodAll_mk1 (shut_bool Try.underlying4 _), (trodAll_cons_mk (Below.trod laidOut (by kernel_rfl) (of_decide_eq_true (by kernel_rfl)) k0 bel lt0) (trodAll_cons_mk (Below.trod laidOut (by kernel_rfl) (of_decide_eq_true (by kernel_rfl)) k1 bel lt1) trodAll_mk0)), rfl, bel.frame _, fun h => by cases h⟩
theorem over : Rows.lookupGoesRow.holds Try.pinned (OpenSpec.ofChange Rows.lookupGoesSpec) :=
  OpenClaim.holds_of_wide 4 Try.f4 rfl rfl rfl rfl rfl rfl rfl ⟨rfl, rfl, rfl, rfl, rfl⟩ rfl rfl rfl rfl rfl (by kernel_rfl) Try.func4 (by kernel_rfl)
    (of_decide_eq_true (by kernel_rfl)) (by unfold Func.isWrapper; first | (rw [if_pos (by decide +kernel)]; kernel_rfl) | (rw [if_neg (by decide +kernel)]; exact ⟨rfl, rfl⟩))
    (fun os started H enc _ => lifted os started H enc)
theorem proved : Rows.LookupGoesSaid := over
end Go.Proofs.Ytcoldgkhlkjjmaa.lookupGoes
namespace Go.Proofs.Ytcoldgkhlkjjmaa
/-- The row, under a short name, for the claim. -/
theorem lookupGoes_holds : Rows.LookupGoesSaid := lookupGoes.proved
#print axioms lookupGoes_holds
end Go.Proofs.Ytcoldgkhlkjjmaa
