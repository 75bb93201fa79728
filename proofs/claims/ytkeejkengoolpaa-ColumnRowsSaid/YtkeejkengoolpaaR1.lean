/- The row ColumnRows: what was walked, lifted to the given statement. -/
import Derived.Test.YtkeejkengoolpaaRows
import Derived.Test.YtkeejkengoolpaaC9
import Derived.Test.YtkeejkengoolpaaE13
import Derived.WalkKit
import Derived.OpenShut
import Derived.ChangeOld
import Derived.Below
namespace Go.Proofs.Ytkeejkengoolpaa.columnRows
open Go.ChangeShapes Go.WideShapes Go.ChangeAt Go.RowKit Go.Eng
set_option linter.unusedVariables false
theorem own : ownKnob Try.prog.godebug = none := by kernel_rfl
theorem laidOut : laidOutB Try.prog = true := by kernel_rfl
theorem cells24 : Try.prog.cellsOf 24 = 3 := by kernel_rfl
set_option maxRecDepth 100000 in
theorem lifted (os : Os) (started : os.Started) (H : Type) (enc : TypeId × Value → H) :
    ReturnsInHanded {} Try.checked os 3 .any (Rows.columnRowsSpec.pre6 enc Try.prog Try.f3 Rows.columnRowsRow.domain false) (Rows.columnRowsSpec.post enc Try.prog Try.f3 false true false false) := by
  refine returnsInHanded_of_change (C := Try.checked) own started (by kernel_rfl) Try.func3
    (ChangeSpec.witness6 (enc := enc) (C := Try.checked) false ⟨#[], #[.agg #[.int .i64 0, .int .i64 0, .slice none 0 0], .slice none 0 0, .slice none 0 0], []⟩ 8 (by kernel_rfl) (by kernel_rfl) (by kernel_rfl) (by kernel_rfl)) ?_
  intro W base args ds gs before hval0 hW hcnd _
  have hval : ∀ (j : Nat) t v, Try.f3.params[j]? = some t → args[j]? = some v → Value.okWide Try.prog W .any base t v := hval0
  have hW' := hW
  obtain ⟨p, q, hA0, hV, rfl, hfz, hnd⟩ := hW
  have hA : DataW.TrodAll enc Try.prog W 0 (fun _ => true) true Try.f3.params.toList args.toList ds p := hA0
  rw [Try.params3] at hA hval
  obtain ⟨v0, vs0, d0, ds0, p0, q0, hargs, rfl, rfl, h0, r0⟩ := trodAll_cons hA
  obtain ⟨v1, vs1, d1, ds1, p1, q1, rfl, rfl, rfl, h1, r1⟩ := trodAll_cons r0
  obtain ⟨v2, vs2, d2, ds2, p2, q2, rfl, rfl, rfl, h2, r2⟩ := trodAll_cons r1
  obtain ⟨rfl, rfl, rfl⟩ := trodAll_nil r2
  obtain rfl : args = #[v0, v1, v2] := by cases args; simp_all
  obtain ⟨rfl, rfl⟩ := trodVars_none hV
  have k0 := h0
  have k1 := h1
  have k2 := h2
  have lt0 : ∀ x ∈ p0, x.block < W.heap.size := by obtain ⟨m, hm⟩ := k0; exact DataW.trod_lt m _ _ _ hm
  have lt1 : ∀ x ∈ p1, x.block < W.heap.size := by obtain ⟨m, hm⟩ := k1; exact DataW.trod_lt m _ _ _ hm
  have lt2 : ∀ x ∈ p2, x.block < W.heap.size := by obtain ⟨m, hm⟩ := k2; exact DataW.trod_lt m _ _ _ hm
  have hu : Reads H enc Try.prog W 22 (tSl (tInt .u64)) := reads_slice Try.underlying22 (by kernel_rfl) rfl (reads_int Try.underlying41)
  have hi : Reads H enc Try.prog W 25 (tSl (tInt .i64)) := reads_slice Try.underlying25 (by kernel_rfl) rfl (reads_int Try.underlying3)
  have hv : Reads H enc Try.prog W 31 (tSl (tInt .u64)) := reads_slice Try.underlying31 (by kernel_rfl) rfl (reads_int Try.underlying41)
  have hvv : Reads H enc Try.prog W 26 (tSl (tSl (tInt .u64))) := reads_slice Try.underlying26 (by kernel_rfl) rfl hv
  obtain ⟨x0, x1, x2, y0, y1, y2, n, rfl, -, -, g0, g1, g2⟩ := Go.Joins.open_agg3 Try.underlying24 (by kernel_rfl) cells24 (hval 0 24 v0 rfl rfl) h0
  obtain ⟨Wd, e0, -, w0⟩ := DataW.trod_int Try.underlying3 g0
  obtain ⟨Rr, e1, -, w1⟩ := DataW.trod_int Try.underlying3 g1
  obtain ⟨a, m, c, ws, rfl, hs⟩ := hu.sl g2
  obtain rfl : x0 = .int .i64 Wd := by injection e0
  obtain rfl : x1 = .int .i64 Rr := by injection e1
  obtain ⟨ar, nr, cr, rfl⟩ := okWide_slice Try.underlying25 (hval 1 25 v1 rfl rfl)
  obtain ⟨al, nl, cl, rfl⟩ := okWide_slice Try.underlying26 (hval 2 26 v2 rfl rfl)
  obtain ⟨f1, t1⟩ := h1
  obtain ⟨f2, t2⟩ := h2
  obtain ⟨ar', nr', cr', rows, e3, hr⟩ := hi.sl t1
  obtain ⟨al', nl', cl', vss, e4, hl⟩ := hvv.sl t2
  injection e3 with e3a e3b e3c
  subst e3a; subst e3b; subst e3c
  injection e4 with e4a e4b e4c
  subst e4a; subst e4b; subst e4c
  clear hA0 hval0
  refine (columnRows_r W Wd Rr a m c ws ar nr cr rows al nl cl vss hs.wr hr hl).calls.mono fun e W' hh => ?_
  obtain ⟨v, rfl, rfl, bel⟩ := hh
  have bel : Below W.heap.size W W' := bel
  exact ⟨_, rfl, _, _, _, [], _, [], hW', trodAll_mk1 (shut_bool Try.underlying4 _), (trodAll_cons_mk (Below.trod laidOut (by kernel_rfl) (of_decide_eq_true (by kernel_rfl)) k0 bel lt0) (trodAll_cons_mk (Below.trod laidOut (by kernel_rfl) (of_decide_eq_true (by kernel_rfl)) k1 bel lt1) (trodAll_cons_mk (Below.trod laidOut (by kernel_rfl) (of_decide_eq_true (by kernel_rfl)) k2 bel lt2) trodAll_mk0))), rfl, bel.frame _, fun h => by cases h⟩
theorem over : Rows.columnRowsRow.holds Try.pinned (OpenSpec.ofChange Rows.columnRowsSpec) :=
  OpenClaim.holds_of_wide 3 Try.f3 rfl rfl rfl rfl rfl rfl rfl ⟨rfl, rfl, rfl, rfl, rfl⟩ rfl rfl rfl rfl rfl (by kernel_rfl) Try.func3 (by kernel_rfl)
    (of_decide_eq_true (by kernel_rfl)) (by unfold Func.isWrapper; first | (rw [if_pos (by decide +kernel)]; kernel_rfl) | (rw [if_neg (by decide +kernel)]; exact ⟨rfl, rfl⟩))
    (fun os started H enc _ => lifted os started H enc)
theorem proved : Rows.ColumnRowsSaid := over
end Go.Proofs.Ytkeejkengoolpaa.columnRows
namespace Go.Proofs.Ytkeejkengoolpaa
/-- The row, under a short name, for the claim. -/
theorem columnRows_holds : Rows.ColumnRowsSaid := columnRows.proved
#print axioms columnRows_holds
end Go.Proofs.Ytkeejkengoolpaa
