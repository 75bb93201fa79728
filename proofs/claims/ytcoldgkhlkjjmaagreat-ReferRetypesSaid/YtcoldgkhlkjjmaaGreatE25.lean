/- The engine, part 25: slices.SortFunc over elements of several cells, by the shelf's contract. -/
import Derived.Test.YtcoldgkhlkjjmaaGreatE24
import Derived.Shelf.SlSortCmp.WholeK
namespace Go.Eng
open Go.RowKit Go.Sort Go.Proofs
set_option linter.unusedVariables false
set_option linter.unusedSimpArgs false
section
variable {P : Program} {ρ : Go.Shelf.Ren} {α : Type} [Inhabited α] {enc : α → List Value} {w : World} {a : Option Addr} {n c e k : Nat} {xs : List α}
theorem flatK_get (hk : ∀ x, (enc x).length = k) : ∀ (xs : List α) (t : Nat), t < xs.length * k → (encL enc xs)[t]? = some (flatK enc k xs.toArray)[t]!
  | [], t, h => by simp at h
  | x :: xs, t, h => by
    have hk0 : 0 < k := by rcases Nat.eq_zero_or_pos k with q | q; · subst q; simp at h
                           · exact q
    rw [get_flatK _ _ _ _ (by simpa using h), encL_cons]
    by_cases ht : t < k
    · rw [List.getElem?_append_left (by rw [hk]; exact ht), Nat.div_eq_of_lt ht, Nat.mod_eq_of_lt ht]
      rw [show (x :: xs).toArray[0]! = x from rfl, getElem!_pos _ _ (by rw [hk]; exact ht)]
      exact List.getElem?_eq_getElem _
    · have hle : k ≤ t := by omega
      rw [List.getElem?_append_right (by rw [hk]; exact hle), hk]
      have h2 : t - k < xs.length * k := by
        have : (x :: xs).length * k = xs.length * k + k := by rw [List.length_cons, Nat.add_mul, Nat.one_mul]
        omega
      rw [flatK_get hk xs (t - k) h2, get_flatK _ _ _ _ (by simpa using h2)]
      have e1 : t / k = (t - k) / k + 1 := by
        rw [Nat.div_eq_sub_div hk0 hle]
      have e2 : t % k = (t - k) % k := Nat.mod_eq_sub_mod hle
      have hj : (t - k) / k < xs.length := (Nat.div_lt_iff_lt_mul hk0).2 h2
      rw [e1, e2, getElem!_pos (xs.toArray) _ (by simpa using hj), getElem!_pos ((x :: xs).toArray) _ (by simpa using hj)]
      simp
theorem flatK_list (hk : ∀ x, (enc x).length = k) (d : Array α) : (flatK enc k d).toList = encL enc d.toList := by
  have hl : ∀ xs : List α, (encL enc xs).length = xs.length * k := by
    intro xs
    induction xs with
    | nil => simp [encL]
    | cons x xs ih => rw [encL_cons, List.length_append, hk, ih, List.length_cons, Nat.add_mul, Nat.one_mul, Nat.add_comm]
  apply List.ext_getElem?
  intro t
  by_cases ht : t < d.size * k
  · rw [flatK_get hk d.toList t (by simpa using ht)]
    rw [Array.getElem?_toList, Array.getElem?_eq_getElem (by simpa using ht)]
    simp only [Array.toArray_toList]
    rw [getElem!_pos _ _ (by simpa using ht)]
  · rw [List.getElem?_eq_none (by simp; omega), List.getElem?_eq_none (by rw [hl]; simp; omega)]
theorem sortK (L : SlLaysF0.n6 P ρ) (hk0 : 0 < k) (aE : ∀ w, (isAgg (ρ.t 24)).run P w = .ok true w) (zE : ∀ w, (Go.sizeOf (ρ.t 24)).run P w = .ok k w) (hk : ∀ x, (enc x).length = k) (h1 : ∀ x, ∀ v ∈ enc x, v.oneCell' = true) (cf : α → α → Int) (hO : SWO (ltOf cf)) {g : Nat} (eg : Enters P g) (cb : Array Value) (hrow : Held w [Row a n c e k (encL enc xs)]) (hm : n ≤ 4000000000)
    (hcmp : ∀ W, Frm (afoot a) w W → ∀ x y : α, Ret P g (#[.agg (enc x).toArray, .agg (enc y).toArray] ++ cb) W fun v w' => v = .int .i64 (cf x y) ∧ Ext W w') :
    Ret P (ρ.f 6) #[.slice a n c, .func (.func g) #[] cb] w fun _ w' => ∃ ys : List α, ys.Perm xs ∧ ys.Pairwise (fun x y => 0 ≤ cf y x) ∧ Turn w [Row a n c e k (encL enc xs)] w' [Row a n c e k (encL enc ys)] := by
  have hr : RowV w a n c e k (encL enc xs) := hrow.1.1 _ List.mem_cons_self
  obtain ⟨q1, q2, q3, q4⟩ := id hr
  have hfl : ∀ zs : List α, (encL enc zs).length = zs.length * k := by
    intro zs
    rw [show encL enc zs = (flatK enc k zs.toArray).toList from (flatK_list hk zs.toArray).symm]; simp
  have hl : xs.length = n := by rw [hfl] at q1; exact Nat.eq_of_mul_eq_mul_right hk0 q1
  rcases Nat.eq_zero_or_pos n with hn | hn
  · subst hn
    have hx : xs = [] := List.eq_nil_of_length_eq_zero hl
    subst hx
    refine Ret.of_calls ((AnyF.slices_SortFunc_none (P := P) (ρ := ρ) { L with } a c _ w).mono fun e' w' ⟨h1, h2⟩ => ⟨_, h1, [], List.Perm.refl _, List.Pairwise.nil, ?_⟩)
    subst h2
    exact Turn.refl hrow
  have hnk : 0 < n * k := Nat.mul_pos hn hk0
  have hck : 0 < c * k := Nat.mul_pos (by omega) hk0
  rcases q4 with ⟨rfl, hc⟩ | ⟨g0, o, cur, rfl, hg, hsz, ht⟩
  · omega
  have hg0 : g0 < w.heap.size := (Array.getElem?_eq_some_iff.1 hg).1
  have hH : HoldsK enc k w g0 o xs.toArray := by
    intro j hj
    have hj' : j < xs.length * k := by simpa using hj
    refine ⟨?_, ?_⟩
    · exact hr.cells rfl (flatK_get hk xs j hj')
    · simp [World.frozen?, hg]
  have hWf : ∀ m os (dk : Array α), Frm (afoot (some ⟨g0, o, none⟩)) w (sortWorldK enc k w g0 o m dk os) := by
    intro m os dk
    have hf := sortWorld_frm (enc := (id : Value → Value)) (w := w) (g := g0) (o := o) (m := m) (os := os) (dk := flatK enc k dk)
    exact ⟨hf.os, hf.tape, hf.output, hf.size, fun k hk hne => hf.old k hk (fun e => hne (by subst e; rfl)), hf.drawn⟩
  have hC : CmpLays P g cb enc k cf g0 o xs.toArray.size w := by
    intro m os dk hdk x y
    refine (hcmp _ (hWf m os dk) x y).calls.mono fun e' w' ⟨v, he, hv, hE⟩ => ⟨by rw [he, hv], hE.grow⟩
  have hcon := AnyQ.slices_SortFunc L k aE zE enc hk h1 cf hO g cb g0 o c xs.toArray w eg hC hH hg0 (by simp; omega)
  have hsize : xs.toArray.size = n := by simpa using hl
  rw [hsize] at hcon
  refine Ret.of_calls (hcon.mono fun e' w' ⟨h1, d', m, os, hp, hso, hw⟩ => ⟨_, h1, d'.toList, ?_, ?_, ?_⟩)
  · obtain ⟨k1, _, k3⟩ := hp
    have e1 : (d'.extract 0 n).toList = d'.toList := by
      rw [show n = d'.size by rw [k1]; exact hsize.symm]; simp
    have e2 : (xs.toArray.extract 0 n).toList = xs := by rw [← hsize]; simp
    rw [e1, e2] at k3; exact k3
  · have k1 := hp.1
    rw [List.pairwise_iff_getElem]
    intro i j hi hj hij
    have := hso i j (Nat.zero_le _) hij (by simp at hj; rw [k1] at hj; simpa [hl] using hj)
    simp only [ltOf, decide_eq_false_iff_not, Int.not_lt] at this
    rw [getElem!_pos _ _ (by simpa using hj), getElem!_pos _ _ (by simpa using hi)] at this
    simpa using this
  · have hds : d'.size = n := hp.1.trans hsize
    have hf := hWf m os d'
    rw [← hw] at hf
    have hb : w'.heap[g0]? = some (.cells (putCells id o (flatK enc k d') cur) e (0, 0)) := by
      rw [hw]
      simp only [sortWorldK, putRowK, Go.Sort.grow, putRow, mapBlock, Go.Sort.ahead]
      rw [Array.getElem?_append_left (by simpa using hg0), Array.getElem?_modify, if_pos rfl, hg]
      rfl
    have hrow' : RowV w' (some ⟨g0, o, none⟩) n c e k (encL enc d'.toList) := by
      refine ⟨by rw [hfl]; simp [hds], q2, q3, .inr ⟨g0, o, _, rfl, hb, by simp [putCells]; omega, ?_⟩⟩
      apply List.ext_getElem?
      intro j
      rw [List.getElem?_take]
      have hnc : n * k ≤ c * k := Nat.mul_le_mul_right k q2
      by_cases hj : j < n * k
      · have hsz2 : o + j < cur.size := by omega
        rw [if_pos hj, List.getElem?_drop, flatK_get hk d'.toList j (by simpa [hds] using hj)]
        simp only [putCells, Array.getElem?_toList, Array.getElem?_mapIdx]
        rw [Array.getElem?_eq_getElem hsz2]
        simp only [Option.map_some]
        rw [if_pos (by simp [hds]; omega), Nat.add_sub_cancel_left]
        simp
      · rw [if_neg hj, List.getElem?_eq_none (by rw [hfl]; simp [hds]; omega)]
    refine ⟨⟨hf.os, hf.tape, hf.output, hf.size, fun k hk hne => hf.old k hk (fun hk' => hne ⟨_, List.mem_cons_self, hk'⟩), hf.drawn⟩, ⟨fun c' hc' => ?_, List.pairwise_singleton _ _⟩, fun k ⟨c', hc', hk⟩ => ?_⟩
    · simp only [List.mem_singleton] at hc'; subst hc'; exact hrow'
    · simp only [List.mem_singleton] at hc'; subst hc'
      have hk' : g0 = k := by simpa [Row, afoot] using hk
      subst hk'
      exact ⟨Nat.lt_of_lt_of_le hg0 hf.size, .inl ⟨_, List.mem_cons_self, rfl⟩⟩
end
end Go.Eng
