/- ColumnBack: what was walked, lifted to the given statement, for every argument that the statement lets in. -/
import Derived.Test.YtkeejkengoolpaaRows
import Derived.Test.YtkeejkengoolpaaC19
import Derived.Test.YtkeejkengoolpaaE17
import Derived.WalkKit
import Derived.OpenShut
import Derived.ChangeOld
import Derived.Below
namespace Go.Proofs.Ytkeejkengoolpaa.columnBack
open Go.ChangeShapes Go.WideShapes Go.ChangeAt Go.RowKit Go.Eng
set_option linter.unusedVariables false
theorem own : ownKnob Try.prog.godebug = none := by kernel_rfl
theorem laidOut : laidOutB Try.prog = true := by kernel_rfl
theorem rd3 {H : Type} {enc : TypeId × Value → H} {W : World} : Reads H enc Try.prog W 3 (tInt .i64) := reads_int Try.underlying3
theorem rd41 {H : Type} {enc : TypeId × Value → H} {W : World} : Reads H enc Try.prog W 41 (tInt .u64) := reads_int Try.underlying41
theorem rd22 {H : Type} {enc : TypeId × Value → H} {W : World} : Reads H enc Try.prog W 22 (tSl (tInt .u64)) := reads_sl Try.underlying22 (by kernel_rfl) (by decide) rd41
theorem rd24 {H : Type} {enc : TypeId × Value → H} {W : World} : Reads H enc Try.prog W 24 (tPair (tInt .i64) (tPair (tInt .i64) (tSl (tInt .u64)))) := reads_struct Try.underlying24 (by kernel_rfl) (rf_cons rfl (by kernel_rfl) rd3 (rf_cons rfl (by kernel_rfl) rd3 (rf_one rfl (by kernel_rfl) rd22)))
theorem rd31 {H : Type} {enc : TypeId × Value → H} {W : World} : Reads H enc Try.prog W 31 (tSl (tInt .u64)) := reads_sl Try.underlying31 (by kernel_rfl) (by decide) rd41
set_option maxRecDepth 100000 in
theorem lifted (os : Os) (started : os.Started) (H : Type) (enc : TypeId × Value → H) :
    ReturnsInHanded {} Try.checked os 7 .any (Rows.columnBackSpec.pre6 enc Try.prog Try.f7 Rows.columnBackRow.domain false) (Rows.columnBackSpec.post enc Try.prog Try.f7 false true false false) := by
  refine returnsInHanded_of_change (C := Try.checked) own started (by kernel_rfl) Try.func7
    (ChangeSpec.witness6 (enc := enc) (C := Try.checked) false ⟨#[], #[(.agg #[.int .i64 0, .int .i64 0, .slice none 0 0]), (.int .i64 0), (.slice none 0 0)], []⟩ 12 (by kernel_rfl) (by kernel_rfl) (by kernel_rfl) (by kernel_rfl)) ?_
  intro W base args ds gs before hval0 hW hcnd _
  have hval : ∀ (j : Nat) t v, Try.f7.params[j]? = some t → args[j]? = some v → Value.okWide Try.prog W .any base t v := hval0
  have hW' := hW
  obtain ⟨p, q, hA0, hV, rfl, hfz, hnd⟩ := hW
  have hA : DataW.TrodAll enc Try.prog W 0 (fun _ => true) true Try.f7.params.toList args.toList ds p := hA0
  rw [Try.params7] at hA hval
  obtain ⟨v0, vs0, d0, ds0, p0, q0, hargs, rfl, rfl, h0, r0⟩ := trodAll_cons hA
  obtain ⟨v1, vs1, d1, ds1, p1, q1, rfl, rfl, rfl, h1, r1⟩ := trodAll_cons r0
  obtain ⟨v2, vs2, d2, ds2, p2, q2, rfl, rfl, rfl, h2, r2⟩ := trodAll_cons r1
  obtain ⟨rfl, rfl, rfl⟩ := trodAll_nil r2
  obtain rfl : args = #[v0, v1, v2] := by cases args; simp_all
  obtain ⟨rfl, rfl⟩ := trodVars_none hV
  have k0 := h0
  have k1 := h1
  have k2 := h2
  have lt0 : ∀ x ∈ p0, x.block < W.heap.size := by obtain ⟨m, hm⟩ := k0; exact DataW.trod_lt m _ _ _ hm
  have lt1 : ∀ x ∈ p1, x.block < W.heap.size := by obtain ⟨m, hm⟩ := k1; exact DataW.trod_lt m _ _ _ hm
  have lt2 : ∀ x ∈ p2, x.block < W.heap.size := by obtain ⟨m, hm⟩ := k2; exact DataW.trod_lt m _ _ _ hm
  -- argument 0
  obtain ⟨y0_, hy0_⟩ := (rd24 (H := H) (enc := enc) (W := W)).arg h0
  obtain ⟨cs0_, rfl, -⟩ := okWide_struct Try.underlying24 (hval 0 24 v0 rfl rfl)
  obtain ⟨l0_, rfl⟩ : ∃ l, cs0_ = List.toArray l := ⟨cs0_.toList, by simp⟩
  replace hy0_ : (tPair (tInt .i64) (tPair (tInt .i64) (tSl (tInt .u64)))).rep All W l0_ y0_ := hy0_
  obtain ⟨y5, y6⟩ := y0_
  obtain ⟨d1, d2, rfl, h3, h4⟩ := rep_pair hy0_
  dsimp only at h3 h4
  obtain ⟨rfl, g7⟩ := rep_int h3
  obtain ⟨y12, y13⟩ := y6
  obtain ⟨d8, d9, rfl, h10, h11⟩ := rep_pair h4
  dsimp only at h10 h11
  obtain ⟨rfl, g14⟩ := rep_int h10
  obtain ⟨a15, n16, c17, rfl, g18⟩ := rep_sl h11
  -- argument 1
  obtain ⟨y1_, hy1_⟩ := (rd3 (H := H) (enc := enc) (W := W)).arg h1
  obtain ⟨x1_, rfl⟩ := okWide_int Try.underlying3 (hval 1 3 v1 rfl rfl)
  obtain ⟨e1_, g1_⟩ := rep_int hy1_
  obtain rfl : x1_ = y1_ := by injection e1_ with e _; injection e
  -- argument 2
  obtain ⟨y2_, hy2_⟩ := (rd31 (H := H) (enc := enc) (W := W)).arg h2
  obtain ⟨a2_, n2_, c2_, rfl⟩ := okWide_slice Try.underlying31 (hval 2 31 v2 rfl rfl)
  obtain ⟨a2', n2', c2', e2_, g2_⟩ := rep_sl hy2_
  obtain ⟨rfl, rfl, rfl⟩ : a2_ = a2' ∧ n2_ = n2' ∧ c2_ = c2' := by injection e2_ with e _; injection e with e1 e2 e3; exact ⟨e1, e2, e3⟩
  clear hA0 hval0
  refine (columnBack_w W y5 y12 a15 n16 c17 y13 x1_ a2_ n2_ c2_ y2_ g7 g14 g18 g1_ g2_).calls.mono fun e W' hh => ?_
  obtain ⟨v, rfl, rfl, bel⟩ := hh
  have bel : Below W.heap.size W W' := bel.below
  exact ⟨_, rfl, _, _, _, [], _, [], hW', trodAll_mk1 (shut_bool Try.underlying4 _), (trodAll_cons_mk (Below.trod laidOut (by kernel_rfl) (of_decide_eq_true (by kernel_rfl)) k0 bel lt0) (trodAll_cons_mk (Below.trod laidOut (by kernel_rfl) (of_decide_eq_true (by kernel_rfl)) k1 bel lt1) (trodAll_cons_mk (Below.trod laidOut (by kernel_rfl) (of_decide_eq_true (by kernel_rfl)) k2 bel lt2) trodAll_mk0))), rfl, bel.frame _, fun h => by cases h⟩
theorem over : Rows.columnBackRow.holds Try.pinned (OpenSpec.ofChange Rows.columnBackSpec) :=
  OpenClaim.holds_of_wide 7 Try.f7 rfl rfl rfl rfl rfl rfl rfl ⟨rfl, rfl, rfl, rfl, rfl⟩ rfl rfl rfl rfl rfl (by kernel_rfl) Try.func7 (by kernel_rfl)
    (of_decide_eq_true (by kernel_rfl)) (by unfold Func.isWrapper; first | (rw [if_pos (by decide +kernel)]; kernel_rfl) | (rw [if_neg (by decide +kernel)]; exact ⟨rfl, rfl⟩))
    (fun os started H enc _ => lifted os started H enc)
theorem proved : Rows.ColumnBackSaid := over
end Go.Proofs.Ytkeejkengoolpaa.columnBack
namespace Go.Proofs.Ytkeejkengoolpaa
/-- The row, under a short name, for the claim. -/
theorem columnBack_holds : Rows.ColumnBackSaid := columnBack.proved
#print axioms columnBack_holds
end Go.Proofs.Ytkeejkengoolpaa
