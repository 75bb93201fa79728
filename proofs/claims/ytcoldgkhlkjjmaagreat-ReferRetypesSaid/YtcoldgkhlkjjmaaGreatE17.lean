/- The engine, part 17: what an argument reads as: bools, strings, slices of whatever, structs, arrays; a whole argument. -/
import Derived.Test.YtcoldgkhlkjjmaaGreatE16
namespace Go.Eng
open Go.ChangeShapes Go.WideShapes Go.ChangeAt Go.RowKit
set_option linter.unusedVariables false
/-- n of a kind, one behind the other. -/
def tArr {α : Type} (n : Nat) (d : Ty α) : Ty (List α) where
  sz := n * d.sz
  rep := fun R w cs xs => xs.length = n ∧ cs.length = n * d.sz ∧ ∀ i x, xs[i]? = some x → d.rep R w ((cs.drop (i * d.sz)).take d.sz) x
  len := fun h => h.2.1
  one := fun {R w cs xs} ⟨h1, h2, h3⟩ u hu => by
    obtain ⟨j, hj⟩ := List.mem_iff_getElem?.1 hu
    have hjl := (List.getElem?_eq_some_iff.1 hj).1
    have hs : 0 < d.sz := by
      rcases Nat.eq_zero_or_pos d.sz with h | h
      · rw [h] at h2; simp at h2; rw [h2] at hjl; simp at hjl
      · exact h
    have hi : j / d.sz < xs.length := by rw [h1]; exact (Nat.div_lt_iff_lt_mul hs).2 (by omega)
    refine d.one (h3 _ _ (List.getElem?_eq_getElem hi)) u ?_
    refine List.mem_iff_getElem?.2 ⟨j % d.sz, ?_⟩
    rw [List.getElem?_take, if_pos (Nat.mod_lt _ hs), List.getElem?_drop, Nat.mul_comm, Nat.div_add_mod]
    exact hj
  loc := fun ⟨h1, h2, h3⟩ hk => ⟨h1, h2, fun i x hx => d.loc (h3 i x hx) hk⟩
  weak := fun ⟨h1, h2, h3⟩ hk => ⟨h1, h2, fun i x hx => d.weak (h3 i x hx) hk⟩
section
variable {H : Type} {enc : TypeId × Value → H} {P : Program} {W : World} {α β : Type}
theorem reads_bool {t : TypeId} (ht : P.underlying t = some .bool) : Reads H enc P W t tBool := by
  intro fuel cs x h
  obtain ⟨b, rfl, _⟩ := DataW.trod_bool ht h
  exact ⟨b, rfl⟩
theorem reads_str {t : TypeId} (ht : P.underlying t = some .string) : Reads H enc P W t tStr := by
  intro fuel cs x h
  obtain ⟨b, rfl, _, hw⟩ := DataW.trod_string ht h
  exact ⟨b, rfl, hw⟩
theorem reads_sl [Inhabited α] {d : Ty α} {t e : TypeId} (ht : P.underlying t = some (.slice e)) (hc : P.cellsOf e = d.sz) (hz : 0 < d.sz) (r : Reads H enc P W e d) : Reads H enc P W t (tSl d) := by
  intro fuel cs x h
  rcases Go.Deep.open_slice ht h with ⟨rfl, _⟩ | ⟨a, len, cap, m, n, D, Pl, rfl, _, hl, hm, hmm, _, hx⟩
  · exact ⟨[], rep_nil d All W⟩
  · simp only [if_true] at hmm
    subst hmm
    rw [hc] at hx
    have hY : ∀ i, ∃ y : α, i < m → ∃ cs, W.cells? 0 (a.add (i * d.sz)) d.sz = some cs ∧ d.rep All W cs y := by
      intro i
      by_cases hi : i < m
      · obtain ⟨cs, h1, h2⟩ := hx i hi
        obtain ⟨y, hy⟩ := r n _ _ h2
        exact ⟨y, fun _ => ⟨cs, h1, hy⟩⟩
      · exact ⟨default, fun h => absurd h hi⟩
    obtain ⟨Y, hY⟩ := Classical.axiomOfChoice hY
    have hpl : 0 < m → a.spot = none := by
      intro h0
      obtain ⟨cs, h1, _⟩ := hY 0 h0
      obtain ⟨_, hlen, hcell⟩ := World.cells?_some h1
      have h1 := hcell 0 hz
      cases hs : a.spot with
      | none => rfl
      | some s =>
        exfalso
        have e0 : (a.add (0 * d.sz)).add 0 = a := by simp [Addr.add]
        have hc0 : cs[0]? = some (cs[0]'(by omega)) := List.getElem?_eq_getElem (by omega)
        rw [e0, hc0] at h1
        simp only [World.cell?, hs] at h1
        split at h1 <;> simp at h1
    refine ⟨(List.range len).map Y, some a, len, m, rfl, hl, hm, fun h => (nomatch h), ⟨by simp, fun h => (nomatch h), ?_, fun _ _ _ _ => trivial, ?_⟩⟩
    · intro h0 ad had
      cases had
      exact hpl (by omega)
    · intro i y hy
      have hi : i < len := by have := (List.getElem?_eq_some_iff.1 hy).1; simpa using this
      rw [List.getElem?_map, List.getElem?_range hi] at hy
      cases hy
      obtain ⟨cs, h1, h2⟩ := hY i (by omega)
      obtain ⟨_, hlen, hcell⟩ := World.cells?_some h1
      refine ⟨cs, h2, fun b o ha j u hu => ?_⟩
      cases ha
      have hj := (List.getElem?_eq_some_iff.1 hu).1
      have h3 := hcell j (by omega)
      rw [hu, add_eq, add_eq] at h3
      exact h3
/-- Fields, one behind the other. -/
def RF (H : Type) (enc : TypeId × Value → H) (P : Program) (W : World) (fs : List Field) (off : Nat) (d : Ty α) : Prop :=
  ∀ (n : Nat) (cs : List Value), off + d.sz ≤ cs.length → (∀ f ∈ fs, ∃ x, DataW.trod enc P W 0 (fun _ => true) true n f.type ((cs.drop f.offset).take (P.cellsOf f.type)) = some x) → ∃ y : α, d.rep All W ((cs.drop off).take d.sz) y
theorem rf_one {f : Field} {off : Nat} {d : Ty α} (ho : f.offset = off) (hc : P.cellsOf f.type = d.sz) (r : Reads H enc P W f.type d) : RF H enc P W [f] off d := by
  intro n cs _ h
  obtain ⟨x, hx⟩ := h f List.mem_cons_self
  rw [ho, hc] at hx
  exact r n _ x hx
theorem rf_cons {f : Field} {fs : List Field} {off : Nat} {d : Ty α} {e : Ty β} (ho : f.offset = off) (hc : P.cellsOf f.type = d.sz) (r : Reads H enc P W f.type d) (rs : RF H enc P W fs (off + d.sz) e) : RF H enc P W (f :: fs) off (tPair d e) := by
  intro n cs hl h
  obtain ⟨x, hx⟩ := h f List.mem_cons_self
  rw [ho, hc] at hx
  obtain ⟨y, hy⟩ := r n _ x hx
  obtain ⟨z, hz⟩ := rs n cs (by simp only [tPair] at hl; omega) (fun g hg => h g (List.mem_cons_of_mem _ hg))
  refine ⟨(y, z), _, _, ?_, hy, hz⟩
  simp only [tPair]
  rw [List.take_add, List.drop_drop]
theorem reads_struct {t : TypeId} {fs : Array Field} {d : Ty α} (ht : P.underlying t = some (.struct fs)) (hc : P.cellsOf t = d.sz) (r : RF H enc P W fs.toList 0 d) : Reads H enc P W t d := by
  intro fuel cs x h
  obtain ⟨xs, n, _, _, hl, hlen, hf⟩ := DataW.trod_struct ht h
  obtain ⟨y, hy⟩ := r n cs (by omega) (fun f hf' => by
    obtain ⟨i, hi⟩ := List.mem_iff_getElem?.1 hf'
    have hi' : fs[i]? = some f := by simpa using hi
    have hil : i < xs.length := by rw [hlen]; exact (Array.getElem?_eq_some_iff.1 hi').1
    exact ⟨xs[i], by rw [hf i f hi', List.getElem?_eq_getElem hil]⟩)
  rw [List.drop_zero, List.take_of_length_le (by omega)] at hy
  exact ⟨y, hy⟩
theorem reads_arr [Inhabited α] {d : Ty α} {t e : TypeId} {n : Nat} (ht : P.underlying t = some (.array n e)) (hc : P.cellsOf e = d.sz) (hc2 : P.cellsOf t = n * d.sz) (r : Reads H enc P W e d) : Reads H enc P W t (tArr n d) := by
  intro fuel cs x h
  obtain ⟨xs, m, _, _, hl, hlen, hx⟩ := DataW.trod_array ht h
  rw [hc] at hx
  have hY : ∀ i, ∃ y : α, i < n → d.rep All W ((cs.drop (i * d.sz)).take d.sz) y := by
    intro i
    by_cases hi : i < n
    · have h1 := hx i hi
      rw [List.getElem?_eq_getElem (by omega)] at h1
      obtain ⟨y, hy⟩ := r m _ _ h1
      exact ⟨y, fun _ => hy⟩
    · exact ⟨default, fun h => absurd h hi⟩
  obtain ⟨Y, hY⟩ := Classical.axiomOfChoice hY
  refine ⟨(List.range n).map Y, by simp, by omega, fun i y hy => ?_⟩
  have hi : i < n := by have := (List.getElem?_eq_some_iff.1 hy).1; simpa using this
  rw [List.getElem?_map, List.getElem?_range hi] at hy
  cases hy
  exact hY i hi
/-- A whole argument. -/
theorem Reads.arg {d : Ty α} {t : TypeId} {v : Value} {y : DataW H} {ps : List MemPlace} (r : Reads H enc P W t d) (h : DataW.Trod enc P W 0 (fun _ => true) true t v y ps) : ∃ x, d.rep All W v.cells.toList x := by
  obtain ⟨fuel, h⟩ := h
  exact r fuel _ _ h
end
theorem rep_int {k : IntKind} {R : Nat → Prop} {w : World} {cs : List Value} {x : Int} (h : (tInt k).rep R w cs x) : cs = [.int k x] ∧ inK k x := h
theorem rep_bool {R : Nat → Prop} {w : World} {cs : List Value} {x : Bool} (h : tBool.rep R w cs x) : cs = [.bool x] := h
theorem rep_str {R : Nat → Prop} {w : World} {cs : List Value} {x : ByteArray} (h : tStr.rep R w cs x) : cs = [.string x] ∧ x.size ≤ maxLen := h
theorem rep_sl {α : Type} {d : Ty α} {R : Nat → Prop} {w : World} {cs : List Value} {x : List α} (h : (tSl d).rep R w cs x) : ∃ a n c, cs = [.slice a n c] ∧ Sl d R w a n c x := by
  obtain ⟨a, n, c, h, h1, h2, h3, s⟩ := h
  exact ⟨a, n, c, h, ⟨h1, h2, h3, s⟩⟩
theorem rep_pair {α β : Type} {d : Ty α} {e : Ty β} {R : Nat → Prop} {w : World} {cs : List Value} {x : α × β} (h : (tPair d e).rep R w cs x) : ∃ c1 c2, cs = c1 ++ c2 ∧ d.rep R w c1 x.1 ∧ e.rep R w c2 x.2 := h
end Go.Eng
