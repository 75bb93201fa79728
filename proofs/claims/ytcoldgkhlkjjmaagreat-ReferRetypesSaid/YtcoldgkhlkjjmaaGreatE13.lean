/- The engine, part 13: what an argument reads as, as data. -/
import Derived.Test.YtcoldgkhlkjjmaaGreatE12
import Derived.ProofKit
import Derived.Deep.Slices
import Derived.Lib.SmallJoins
namespace Go.Eng
open Go.ChangeShapes Go.WideShapes Go.ChangeAt Go.RowKit
set_option linter.unusedVariables false
/-- Whatever reads at type t, whole, is data of type d. -/
def Reads {α : Type} (H : Type) (enc : TypeId × Value → H) (P : Program) (W : World) (t : TypeId) (d : Ty α) : Prop :=
  ∀ (fuel : Nat) (cs : List Value) (x : DataW H × List MemPlace), DataW.trod enc P W 0 (fun _ => true) true fuel t cs = some x → ∃ y : α, d.rep All W cs y
section
variable {H : Type} {enc : TypeId × Value → H} {P : Program} {W : World} {α : Type}
theorem wf_inK {k : IntKind} {n : Int} (h : (Lit.int k n).wf = true) : inK k n := by
  simp only [Lit.wf, Bool.and_eq_true, decide_eq_true_eq] at h
  unfold inK
  cases k <;> simp_all [IntKind.min, IntKind.max, IntKind.bits, IntKind.signed] <;> omega
theorem reads_int {t : TypeId} {k : IntKind} (ht : P.underlying t = some (.int k)) : Reads H enc P W t (tInt k) := by
  intro fuel cs x h
  obtain ⟨n, rfl, _, hw⟩ := DataW.trod_int ht h
  exact ⟨n, rfl, wf_inK hw⟩
theorem reads_slice [Inhabited α] {d : Ty α} {t e : TypeId} (ht : P.underlying t = some (.slice e)) (hc : P.cellsOf e = 1) (hz : d.sz = 1) (r : Reads H enc P W e d) : Reads H enc P W t (tSl d) := by
  intro fuel cs x h
  rcases Go.Deep.open_slice1 ht hc h with ⟨rfl, _⟩ | ⟨a, len, cap, m, n, V, D, Pl, rfl, _, hl, hm, hmm, _, hx⟩
  · exact ⟨[], rep_nil d All W⟩
  · simp only [if_true] at hmm
    subst hmm
    have hY : ∀ i, ∃ y : α, i < m → d.rep All W [V i] y := by
      intro i
      by_cases hi : i < m
      · obtain ⟨y, hy⟩ := r n _ _ (hx i hi).2
        exact ⟨y, fun _ => hy⟩
      · exact ⟨default, fun h => absurd h hi⟩
    obtain ⟨Y, hY⟩ := Classical.axiomOfChoice hY
    refine ⟨(List.range len).map Y, some a, len, m, rfl, hl, hm, fun h => (nomatch h), ⟨by simp, fun h => (nomatch h), ?_, fun _ _ _ _ => trivial, ?_⟩⟩
    · intro h0 ad had
      cases had
      have h1 := (hx 0 (by omega)).1
      cases hs : a.spot with
      | none => rfl
      | some s =>
        exfalso
        have e0 : a.add 0 = a := by simp [Addr.add]
        rw [e0] at h1
        simp only [World.cell?, hs] at h1
        split at h1 <;> simp at h1
    · intro i y hy
      have hi : i < len := by have := (List.getElem?_eq_some_iff.1 hy).1; simpa using this
      rw [List.getElem?_map, List.getElem?_range hi] at hy
      cases hy
      refine ⟨[V i], hY i (by omega), fun b o ha j u hu => ?_⟩
      cases ha
      cases j with
      | succ j => simp at hu
      | zero =>
        cases hu
        have := (hx i (by omega)).1
        rw [add_eq] at this
        rw [hz, Nat.mul_one, Nat.add_zero]
        exact this
theorem Reads.sl {d : Ty α} {t : TypeId} (r : Reads H enc P W t (tSl d)) {v : Value} {fuel : Nat} {x : DataW H × List MemPlace} (h : DataW.trod enc P W 0 (fun _ => true) true fuel t [v] = some x) : ∃ a n c xs, v = .slice a n c ∧ Sl d All W a n c xs := by
  obtain ⟨y, hy⟩ := r fuel _ x h
  obtain ⟨a, n, c, e, h1, h2, h3, h4⟩ := hy
  injection e with e _
  exact ⟨a, n, c, y, e, h1, h2, h3, h4⟩
end
end Go.Eng
