/- Record: what the laid variable gives. -/
import Derived.Test.YthencidlkacpdaaDoorRows
import Derived.Test.YthencidlkacpdaaDoorY1
import Derived.ProofKit
import Derived.LaidMore
import Derived.OpenShut
import Derived.LaidByTextLater
namespace Go.Eng
open Go Go.Proofs Go.Proofs.YthencidlkacpdaaDoor
theorem gNow : Tryd.prog.globalNamed "windrose/record.nowhere" = some 0 := by kernel_rfl
theorem tNow : (Tryd.prog.globals[0]?).map (·.type) = some 34 := by kernel_rfl
def laidL : List (String × DataW Unit) := [("windrose/record.nowhere", Rows.laid_windrose_record_nowhere)]
theorem of_laid {W : World} (h : laidMetH Tryd.prog laidL W) : Gz W := by
  rw [MakeChecks.laidMetH_plain _ _ _ (by kernel_rfl)] at h
  obtain ⟨ps, ⟨g0, t0, cs0, f0, p0, q0, hg0, ht0, hv0, hd0, _⟩, _⟩ := h
  obtain rfl := Option.some.inj (gNow.symm.trans hg0)
  obtain rfl := Option.some.inj (tNow.symm.trans ht0)
  obtain ⟨y0, y1, fuel, e, hl, h0, h1⟩ := Go.ChangeShapes.trod_struct2 Go.Proofs.Tryd.underlying34 hd0
  obtain ⟨n0, c0, e0, _⟩ := DataW.trod_int Go.Proofs.Tryd.underlying3 h0
  obtain ⟨n1, c1, e1, _⟩ := DataW.trod_int Go.Proofs.Tryd.underlying3 h1
  have hC : Tryd.prog.cellsOf 34 = 2 := by kernel_rfl
  have hC3 : Tryd.prog.cellsOf 3 = 1 := by kernel_rfl
  simp only [Prod.mk.injEq, Rows.laid_windrose_record_nowhere, DataW.agg.injEq, List.cons.injEq, and_true] at e
  have k0 : n0 = 0 := by rw [e0] at e; simpa using e.1.1.symm
  have k1 : n1 = 0 := by rw [e1] at e; simpa using e.1.2.symm
  subst k0; subst k1
  rw [hC] at hl
  rw [hC3] at c0 c1
  obtain ⟨l⟩ := cs0
  match l, hl with
  | [u0, u1], _ =>
    simp at c0 c1
    subst c0; subst c1
    intro j v hj
    have := World.var?_cell hg0 hv0 j
    rw [Nat.zero_add, this]
    simpa using hj

/-- The door's own heap meets the condition. -/
theorem door_met (os : Os) (args : Array Value) : laidMetH Tryd.prog laidL ((World.doorLaid Tryd.prog 400 os).forCall (fun _ _ => 0) ⟨#[], args, []⟩).memory :=
  laidMetH_of_parts3 (fuel := 8) (laidMet_of_run' 8 (by kernel_rfl) (by kernel_rfl)) (by kernel_rfl) (by kernel_rfl)
end Go.Eng
