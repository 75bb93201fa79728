/- The engine, part 19: slices.SortFunc over a row of one-cell elements, by the shelf's contract. -/
import Derived.Test.YtcoldgkhlkjjmaaGreatE18
import Derived.Shelf.SlSortCmp.Whole1
import Derived.Shelf.SlSortCmp.NoneTotal
namespace Go.Eng
open Go.RowKit Go.Sort Go.Proofs
theorem Ext.grow {w w' : World} (h : Ext w w') : ∃ q os, w' = Go.Sort.grow (w.drewN q) os := by
  obtain ⟨h1, h2, h3, h4, h5, h6⟩ := h
  refine ⟨w'.drawn - w.drawn, w'.heap.extract w.heap.size w'.heap.size, ?_⟩
  have hh : w.heap ++ w'.heap.extract w.heap.size w'.heap.size = w'.heap := by
    apply Array.ext_getElem?
    intro k
    by_cases hk : k < w.heap.size
    · rw [Array.getElem?_append_left hk]; exact (h5 k hk).symm
    · rw [Array.getElem?_append_right (by omega), Array.getElem?_extract]
      by_cases hk2 : k < w'.heap.size
      · rw [if_pos (by omega), show w.heap.size + (k - w.heap.size) = k by omega]
      · rw [if_neg (by omega), Array.getElem?_eq_none (by omega)]
  cases w' with
  | mk a b c d e =>
    simp only [Go.Sort.grow, World.drewN] at hh ⊢
    simp only at h1 h2 h3 h6
    rw [hh, ← h2, ← h1, ← h3]
    congr 1
    omega
theorem getElem!_toArray {α : Type} [Inhabited α] (xs : List α) (j : Nat) (hj : j < xs.length) : xs.toArray[j]! = xs[j] := by
  rw [getElem!_pos _ _ (by simpa using hj)]; simp
section
variable {P : Program} {ρ : Go.Shelf.Ren} {α : Type} [Inhabited α] {enc : α → Value} {w : World} {a : Option Addr} {n c e : Nat} {xs : List α}
theorem sortWorld_frm {g o m : Nat} {os : Array Obj} {dk : Array α} : Frm (fun k => k = g) w (sortWorld enc w g o m dk os) := by
  refine ⟨rfl, rfl, rfl, by simp [sortWorld], fun k hk hne => ?_, by simp [sortWorld, Go.Sort.grow, putRow, mapBlock, Go.Sort.ahead]⟩
  simp only [sortWorld, Go.Sort.grow, putRow, mapBlock, Go.Sort.ahead]
  rw [Array.getElem?_append_left (by simpa using hk), Array.getElem?_modify, if_neg (fun e => hne e.symm)]
theorem sort1 (L : SlLaysF.n6 P ρ) (h1 : ∀ x, (enc x).oneCell' = true) (cf : α → α → Int) (hO : SWO (ltOf cf)) {g : Nat} (eg : Enters P g) (cb : Array Value) (hrow : Held w [Row a n c e 1 (xs.map enc)]) (hm : n ≤ 4000000000)
    (hcmp : ∀ W, Frm (afoot a) w W → ∀ x y : α, Ret P g (#[enc x, enc y] ++ cb) W fun v w' => v = .int .i64 (cf x y) ∧ Ext W w') :
    Ret P (ρ.f 6) #[.slice a n c, .func (.func g) #[] cb] w fun _ w' => ∃ ys : List α, ys.Perm xs ∧ ys.Pairwise (fun x y => 0 ≤ cf y x) ∧ Turn w [Row a n c e 1 (xs.map enc)] w' [Row a n c e 1 (ys.map enc)] := by
  have hr : RowV w a n c e 1 (xs.map enc) := hrow.1.1 _ List.mem_cons_self
  obtain ⟨q1, q2, q3, q4⟩ := id hr
  have hl : xs.length = n := by simpa using q1
  rcases Nat.eq_zero_or_pos n with hn | hn
  · subst hn
    have hx : xs = [] := List.eq_nil_of_length_eq_zero hl
    subst hx
    refine Ret.of_calls ((AnyF.slices_SortFunc_none (P := P) (ρ := ρ) { L with } a c _ w).mono fun e' w' ⟨h1, h2⟩ => ⟨_, h1, [], List.Perm.refl _, List.Pairwise.nil, ?_⟩)
    subst h2
    exact Turn.refl hrow
  rcases q4 with ⟨rfl, hc⟩ | ⟨g0, o, cur, rfl, hg, hsz, ht⟩
  · omega
  simp only [Nat.mul_one] at hsz ht
  have hg0 : g0 < w.heap.size := (Array.getElem?_eq_some_iff.1 hg).1
  have hH : Holds enc w g0 o xs.toArray := by
    intro j hj
    have hj' : j < xs.length := by simpa using hj
    refine ⟨?_, ?_⟩
    · rw [getElem!_toArray xs j hj']
      exact hr.cells rfl (by rw [List.getElem?_map, List.getElem?_eq_getElem hj']; rfl)
    · simp [World.frozen?, hg]
  have hC : CmpLays1 P g cb enc cf g0 o xs.toArray.size w := by
    intro m os dk hdk x y
    have hW : Frm (afoot (some ⟨g0, o, none⟩)) w (sortWorld enc w g0 o m dk os) := by
      have hf := sortWorld_frm (enc := enc) (w := w) (g := g0) (o := o) (m := m) (os := os) (dk := dk)
      exact ⟨hf.os, hf.tape, hf.output, hf.size, fun k hk hne => hf.old k hk (fun e => hne (by subst e; rfl)), hf.drawn⟩
    refine (hcmp _ hW x y).calls.mono fun e' w' ⟨v, he, hv, hE⟩ => ⟨by rw [he, hv], hE.grow⟩
  have hcon := Any.slices_SortFunc L enc h1 cf hO g cb g0 o c xs.toArray w eg hC hH hg0 (by simp; omega)
  have hsize : xs.toArray.size = n := by simpa using hl
  rw [hsize] at hcon
  refine Ret.of_calls (hcon.mono fun e' w' ⟨h1, d', m, os, hp, hso, hw⟩ => ⟨_, h1, d'.toList, ?_, ?_, ?_⟩)
  · obtain ⟨k1, _, k3⟩ := hp
    have e1 : (d'.extract 0 n).toList = d'.toList := by
      rw [show n = d'.size by rw [k1]; exact hsize.symm]; simp
    have e2 : (xs.toArray.extract 0 n).toList = xs := by rw [← hsize]; simp
    rw [e1, e2] at k3; exact k3
  · have k1 := hp.1
    rw [List.pairwise_iff_getElem]
    intro i j hi hj hij
    have := hso i j (Nat.zero_le _) hij (by simp at hj; rw [k1] at hj; simpa [hl] using hj)
    simp only [ltOf, decide_eq_false_iff_not, Int.not_lt] at this
    rw [getElem!_pos _ _ (by simpa using hj), getElem!_pos _ _ (by simpa using hi)] at this
    simpa using this
  · have hds : d'.size = n := hp.1.trans hsize
    have hf := sortWorld_frm (enc := enc) (w := w) (g := g0) (o := o) (m := m) (os := os) (dk := d')
    rw [← hw] at hf
    have hb : w'.heap[g0]? = some (.cells (putCells enc o d' cur) e (0, 0)) := by
      rw [hw]
      simp only [sortWorld, Go.Sort.grow, putRow, mapBlock, Go.Sort.ahead]
      rw [Array.getElem?_append_left (by simpa using hg0), Array.getElem?_modify, if_pos rfl, hg]
      rfl
    have hrow' : RowV w' (some ⟨g0, o, none⟩) n c e 1 (d'.toList.map enc) := by
      refine ⟨by simp [hds], q2, q3, .inr ⟨g0, o, _, rfl, hb, by simp [putCells]; omega, ?_⟩⟩
      apply List.ext_getElem?
      intro j
      rw [Nat.mul_one, List.getElem?_take]
      by_cases hj : j < n
      · have hsz2 : o + j < cur.size := by omega
        rw [if_pos hj, List.getElem?_drop, List.getElem?_map]
        have e1 : (putCells enc o d' cur).toList[o + j]? = some (enc d'[j]!) := by
          simp only [putCells, Array.getElem?_toList, Array.getElem?_mapIdx]
          rw [Array.getElem?_eq_getElem hsz2]
          simp only [Option.map_some]
          rw [if_pos (by omega), Nat.add_sub_cancel_left]
        rw [e1, getElem!_pos _ _ (by omega)]
        simp [show j < d'.size by omega]
      · rw [if_neg hj, List.getElem?_eq_none (by simp; omega)]
    refine ⟨⟨hf.os, hf.tape, hf.output, hf.size, fun k hk hne => hf.old k hk (fun e' => hne ⟨_, List.mem_cons_self, by subst e'; rfl⟩), hf.drawn⟩, ⟨fun c' hc' => ?_, List.pairwise_singleton _ _⟩, fun k ⟨c', hc', hk⟩ => ?_⟩
    · simp only [List.mem_singleton] at hc'; subst hc'; exact hrow'
    · simp only [List.mem_singleton] at hc'; subst hc'
      have hk' : g0 = k := by simpa [Row, afoot] using hk
      subst hk'
      exact ⟨Nat.lt_of_lt_of_le hg0 hf.size, .inl ⟨_, List.mem_cons_self, rfl⟩⟩
end
end Go.Eng
