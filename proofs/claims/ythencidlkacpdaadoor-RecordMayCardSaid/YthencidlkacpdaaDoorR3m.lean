/- RecordMay: what was walked, lifted to the given statement, for every argument that the statement lets in. -/
import Derived.Test.YthencidlkacpdaaDoorRows
import Derived.Test.YthencidlkacpdaaDoorY6
import Derived.Test.YthencidlkacpdaaDoorE17
import Derived.WalkKit
import Derived.OpenShut
import Derived.ChangeOld
import Derived.Below
import Derived.Test.YthencidlkacpdaaDoorL
import Derived.Test.YthencidlkacpdaaDoorTie
import Derived.Test.YthencidlkacpdaaDoorCards
import Derived.SevenTiedAt
import Derived.LaidMore
import Derived.Stop.Joined
namespace Go.Proofs.YthencidlkacpdaaDoor.recordMay
open Go.ChangeShapes Go.WideShapes Go.ChangeAt Go.RowKit Go.Eng
set_option linter.unusedVariables false
theorem own : ownKnob Tryd.prog.godebug = none := by kernel_rfl
theorem laidOut : laidOutB Tryd.prog = true := by kernel_rfl
theorem rd3 {H : Type} {enc : TypeId × Value → H} {W : World} : Reads H enc Tryd.prog W 3 (tInt .i64) := reads_int Tryd.underlying3
theorem rd34 {H : Type} {enc : TypeId × Value → H} {W : World} : Reads H enc Tryd.prog W 34 (tPair (tInt .i64) (tInt .i64)) := reads_struct Tryd.underlying34 (by kernel_rfl) (rf_cons rfl (by kernel_rfl) rd3 (rf_one rfl (by kernel_rfl) rd3))
theorem rd22 {H : Type} {enc : TypeId × Value → H} {W : World} : Reads H enc Tryd.prog W 22 (tSl (tPair (tInt .i64) (tInt .i64))) := reads_sl Tryd.underlying22 (by kernel_rfl) (by decide) rd34
theorem rd24 {H : Type} {enc : TypeId × Value → H} {W : World} : Reads H enc Tryd.prog W 24 (tSl (tPair (tInt .i64) (tInt .i64))) := reads_struct Tryd.underlying24 (by kernel_rfl) (rf_one rfl (by kernel_rfl) rd22)
theorem rd25 {H : Type} {enc : TypeId × Value → H} {W : World} : Reads H enc Tryd.prog W 25 (tArr 2 (tSl (tPair (tInt .i64) (tInt .i64)))) := reads_arr Tryd.underlying25 (by kernel_rfl) (by kernel_rfl) rd24
theorem rd26 {H : Type} {enc : TypeId × Value → H} {W : World} : Reads H enc Tryd.prog W 26 (tSl (tInt .i64)) := reads_sl Tryd.underlying26 (by kernel_rfl) (by decide) rd3
set_option maxRecDepth 100000 in
theorem lifted (os : Os) (started : os.Started) (H : Type) (enc : TypeId × Value → H) :
    ReturnsInHanded {} Tryd.checked os 3 .any (fun w args => (Rows.recordMaySpec.pre enc Tryd.prog Tryd.f3 [] false w args ∧ laidMetH Tryd.prog laidL w) ∧ sizedMet enc Tryd.prog Tryd.f3 (OpenSpec.ofChange Rows.recordMaySpec) false w args) (Rows.recordMaySpec.post enc Tryd.prog Tryd.f3 false true false false) := by
  refine returnsInHanded_of_change_and (C := Tryd.checked) (X := fun w _ => laidMetH Tryd.prog laidL w) (fun _ _ _ hh h => h.of_heap hh) own started (by kernel_rfl) Tryd.func3
    (ChangeSpec.witness_shaped (enc := enc) (C := Tryd.checked) (os := os) (X := fun w _ => laidMetH Tryd.prog laidL w) false (World.doorLaid Tryd.prog 400 os) #[(.agg #[.slice none 0 0, .slice none 0 0]), (.slice none 0 0), (.slice none 0 0)] 12 rfl (World.shaped_of_RefB (by kernel_rfl) (by kernel_rfl)) (by kernel_rfl) (by kernel_rfl) (by kernel_rfl) (door_met os _)) ?_
  intro W base args ds gs before hval0 hW hcnd _ hLd _
  have hval : ∀ (j : Nat) t v, Tryd.f3.params[j]? = some t → args[j]? = some v → Value.okWide Tryd.prog W .any base t v := hval0
  have hW' := hW
  obtain ⟨p, q, hA0, hV, rfl, hfz, hnd⟩ := hW
  have hA : DataW.TrodAll enc Tryd.prog W 0 (fun _ => true) true Tryd.f3.params.toList args.toList ds p := hA0
  rw [Tryd.params3] at hA hval
  obtain ⟨v0, vs0, d0, ds0, p0, q0, hargs, rfl, rfl, h0, r0⟩ := trodAll_cons hA
  obtain ⟨v1, vs1, d1, ds1, p1, q1, rfl, rfl, rfl, h1, r1⟩ := trodAll_cons r0
  obtain ⟨v2, vs2, d2, ds2, p2, q2, rfl, rfl, rfl, h2, r2⟩ := trodAll_cons r1
  obtain ⟨rfl, rfl, rfl⟩ := trodAll_nil r2
  obtain rfl : args = #[v0, v1, v2] := by cases args; simp_all
  obtain ⟨rfl, rfl⟩ := trodVars_none hV
  have k0 := h0
  have k1 := h1
  have k2 := h2
  have lt0 : ∀ x ∈ p0, x.block < W.heap.size := by obtain ⟨m, hm⟩ := k0; exact DataW.trod_lt m _ _ _ hm
  have lt1 : ∀ x ∈ p1, x.block < W.heap.size := by obtain ⟨m, hm⟩ := k1; exact DataW.trod_lt m _ _ _ hm
  have lt2 : ∀ x ∈ p2, x.block < W.heap.size := by obtain ⟨m, hm⟩ := k2; exact DataW.trod_lt m _ _ _ hm
  -- argument 0
  obtain ⟨y0_, hy0_⟩ := (rd25 (H := H) (enc := enc) (W := W)).arg h0
  obtain ⟨cs0_, rfl, -⟩ := okWide_array Tryd.underlying25 (hval 0 25 v0 rfl rfl)
  obtain ⟨l0_, rfl⟩ : ∃ l, cs0_ = List.toArray l := ⟨cs0_.toList, by simp⟩
  replace hy0_ : (tArr 2 (tSl (tPair (tInt .i64) (tInt .i64)))).rep All W l0_ y0_ := hy0_
  obtain ⟨d1, d2, y3, y4, rfl, rfl, h5, h6⟩ := rep_arr_cons hy0_
  obtain ⟨a7, n8, c9, rfl, g10⟩ := rep_sl h5
  obtain ⟨d11, d12, y13, y14, rfl, rfl, h15, h16⟩ := rep_arr_cons h6
  obtain ⟨a17, n18, c19, rfl, g20⟩ := rep_sl h15
  obtain ⟨rfl, rfl⟩ := rep_arr_nil h16
  -- argument 1
  obtain ⟨y1_, hy1_⟩ := (rd26 (H := H) (enc := enc) (W := W)).arg h1
  obtain ⟨a1_, n1_, c1_, rfl⟩ := okWide_slice Tryd.underlying26 (hval 1 26 v1 rfl rfl)
  obtain ⟨a1', n1', c1', e1_, g1_⟩ := rep_sl hy1_
  obtain ⟨rfl, rfl, rfl⟩ : a1_ = a1' ∧ n1_ = n1' ∧ c1_ = c1' := by injection e1_ with e _; injection e with e1 e2 e3; exact ⟨e1, e2, e3⟩
  -- argument 2
  obtain ⟨y2_, hy2_⟩ := (rd22 (H := H) (enc := enc) (W := W)).arg h2
  obtain ⟨a2_, n2_, c2_, rfl⟩ := okWide_slice Tryd.underlying22 (hval 2 22 v2 rfl rfl)
  obtain ⟨a2', n2', c2', e2_, g2_⟩ := rep_sl hy2_
  obtain ⟨rfl, rfl, rfl⟩ : a2_ = a2' ∧ n2_ = n2' ∧ c2_ = c2' := by injection e2_ with e _; injection e with e1 e2 e3; exact ⟨e1, e2, e3⟩
  clear hA0 hval0
  refine (recordMay_w W (of_laid hLd) a7 n8 c9 y3 a17 n18 c19 y13 a1_ n1_ c1_ y1_ a2_ n2_ c2_ y2_ g10 g20 g1_ g2_).calls.mono fun e W' hh => ?_
  obtain ⟨v, rfl, rfl, bel⟩ := hh
  have bel : Below W.heap.size W W' := bel.below
  exact ⟨_, rfl, _, _, _, [], _, [], hW', trodAll_mk1 (shut_bool Tryd.underlying4 _), (trodAll_cons_mk (Below.trod laidOut (by kernel_rfl) (of_decide_eq_true (by kernel_rfl)) k0 bel lt0) (trodAll_cons_mk (Below.trod laidOut (by kernel_rfl) (of_decide_eq_true (by kernel_rfl)) k1 bel lt1) (trodAll_cons_mk (Below.trod laidOut (by kernel_rfl) (of_decide_eq_true (by kernel_rfl)) k2 bel lt2) trodAll_mk0))), rfl, bel.frame _, fun h => by cases h⟩
theorem over : Rows.recordMayRow.holds Tryd.pinned (OpenSpec.ofChange Rows.recordMaySpec) :=
  OpenClaim.holds_of_wide 3 Tryd.f3 rfl rfl rfl rfl rfl rfl rfl ⟨rfl, rfl, rfl, rfl, rfl⟩ rfl rfl rfl rfl rfl (by kernel_rfl) Tryd.func3 (by kernel_rfl)
    (of_decide_eq_true (by kernel_rfl)) (by unfold Func.isWrapper; first | (rw [if_pos (by decide +kernel)]; kernel_rfl) | (rw [if_neg (by decide +kernel)]; exact ⟨rfl, rfl⟩))
    (fun os started H enc _ => lifted os started H enc)
theorem proved : Rows.RecordMaySaid := over
theorem card_holds : Rows.RecordMayCardSaid :=
  Claim7.holds_tied_plain_at .later [] [.data] true (true, "4350b0f67f5b4093a145eaf872a59d2f3b4eebdadc084870a74d18e89d24acfa") false
    over (fun _ h => by cases h) (by kernel_rfl) (fun _ h => by cases h) recordMay_row_tie rfl ⟨rfl, rfl⟩ (by kernel_rfl) rfl
    (fun f fn hf hfn => by
      obtain rfl : f = 3 := Option.some.inj ((show Tryd.prog.funcNamed "windrose/windroselaw10.RecordMay" = some 3 by kernel_rfl).symm.trans hf) |>.symm
      obtain rfl : fn = Tryd.f3 := (Option.some.inj (Tryd.func3.symm.trans hfn)).symm
      exact ⟨by kernel_rfl, fun j t ht => by
        rw [Tryd.params3] at ht
        have hm : t ∈ [25, 26, 22] := by simpa using Array.mem_of_getElem? ht
        have hall : ([25, 26, 22].all fun u => !Tryd.prog.wantsStandIn u) = true := by kernel_rfl
        exact (show Tryd.prog.wantsStandIn t = false by simpa using List.all_eq_true.1 hall t hm)⟩)
    (by kernel_rfl)
end Go.Proofs.YthencidlkacpdaaDoor.recordMay
namespace Go.Proofs.YthencidlkacpdaaDoor
/-- The row, under a short name, for the claim. -/
theorem recordMay_holds : Rows.RecordMayCardSaid := recordMay.card_holds
#print axioms recordMay_holds
end Go.Proofs.YthencidlkacpdaaDoor
