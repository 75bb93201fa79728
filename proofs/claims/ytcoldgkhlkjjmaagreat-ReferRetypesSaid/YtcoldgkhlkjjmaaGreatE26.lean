/- The engine, part 26: clear. -/
import Derived.Test.YtcoldgkhlkjjmaaGreatE25
namespace Go.Eng
open Go.RowKit
set_option linter.unusedVariables false
set_option linter.unusedSimpArgs false
section
variable {P : Program} {env : Env} {w0 w w' : World} {F : Nat → Prop} {L L' : List HP} {dst : Option Tmp} {ty : TypeId} {pos : String} {af : Array Edge} {gd : Option (Nat × Bool)} {S : Value → World → Prop}
theorem as_b_clear {S : Value → World → Prop} {gd : Option (Nat × Bool)} {a : Array Operand} {T : Array TypeId} (h : OpR P env ⟨dst, .call ⟨.builtin .clear, a, T⟩, ty, pos, af, gd⟩ w S) : OpR P env ⟨dst, .call ⟨.builtin .clear, a, T⟩, ty, pos, af, gd⟩ w S := h
theorem zeroCells_len (z : Array Value) (n : Nat) : (Builtin.zeroCells z n).toList.length = n * z.size := by simp [Builtin.zeroCells]
theorem zeroCells_one {z : Array Value} {n : Nat} (hz : ∀ i, i < z.size → z[i]!.oneCell' = true) : ∀ u ∈ (Builtin.zeroCells z n).toList, u.oneCell' = true := by
  intro u hu
  simp only [Builtin.zeroCells, Array.toList_map, List.mem_map] at hu
  obtain ⟨i, hi, rfl⟩ := hu
  have hi : i < n * z.size := by simpa using hi
  have h0 : 0 < z.size := by rcases Nat.eq_zero_or_pos z.size with h | h; · rw [h] at hi; omega
                             · exact h
  exact hz _ (Nat.mod_lt _ h0)
/-- clear of a part of a row that is held. -/
theorem OpR_clear {t e m cx n c off sz : Nat} {a ax : Option Addr} {z : Value} {x : Operand} {xs : List Value} {f : HP → List HP} [U : Und P t (.slice e)] [Zr : Zer P e z] (hs : St w0 F w L) (hx : ev env x = some (.slice ax m cx)) (hz : z.cells.size = sz) (hz1 : ∀ i, i < z.cells.size → z.cells[i]!.oneCell' = true)
    [r : RowAt L a n c e sz xs f] (hax : 0 < m → ax = a.map (·.add (off * sz))) (hoff : off + m ≤ n) :
    OpR P env ⟨dst, .call ⟨.builtin .clear, #[x], #[t]⟩, ty, pos, af, gd⟩ w (fun v w' => v = .tuple #[] ∧ (∃ zs, zs.length = m * sz ∧ St w0 F w' (f (Row a n c e sz (splice xs (off * sz) zs)))) ∧ Frm (afoot a) w w') := by
  have hrow := hs.row a n c
  obtain ⟨q1, q2, q3, q4⟩ := hrow
  rcases Nat.eq_zero_or_pos m with h0 | h0
  · subst h0
    have hsame : St w0 F w (f (Row a n c e sz xs)) := by
      refine hs.turn (r.ctx.up _) (Ext.refl w |>.frm _) (hs.row a n c) (fun k hk => ⟨?_, .inl hk⟩)
      exact (hs.foot _ (r.ctx.up (Junk 0)).mem k hk).1
    have hrun : (Builtin.clear_ #[t] ty #[.slice ax 0 cx]).run P w = .ok (.tuple #[]) w := by
      cases ax <;> simp [Builtin.clear_, run_underlying U.h]
    refine .val (w' := w) (v := .tuple #[]) (fun _ hm => by simp [execOp, resolve, invoke, builtin, hm.eval hx, hrun]) ⟨rfl, ⟨[], by simp, ?_⟩, (Ext.refl w).frm _⟩
    rw [splice_nil]; exact hsame
  · have hax2 := hax h0
    obtain ⟨vs, hvs⟩ : ∃ vs, vs = (Builtin.zeroCells z.cells m).toList := ⟨_, rfl⟩
    have hl : vs.length = m * sz := by rw [hvs, zeroCells_len, hz]
    have h1 : ∀ u ∈ vs, u.oneCell' = true := by rw [hvs]; exact zeroCells_one hz1
    have hfit : off * sz + vs.length ≤ n * sz := by
      rw [hl, ← Nat.add_mul]; exact Nat.mul_le_mul_right _ (by omega)
    have hnc : n * sz ≤ c * sz := Nat.mul_le_mul_right _ q2
    rcases q4 with ⟨rfl, hc0⟩ | ⟨b, o, cur, rfl, hg, hsz, ht⟩
    · omega
    · simp only [Option.map_some, add_eq] at hax2
      subst hax2
      have hst := run_storeCells_at P b (o + off * sz) e vs 0 cur w hg (by omega) h1
      simp only [Nat.add_zero] at hst
      rw [setRow_eq hg] at hst
      have hzv : (zeroValue e).run P w = .ok z w := zero_of Zr.h w
      have hrun : (Builtin.clear_ #[t] ty #[.slice (some ⟨b, o + off * sz, none⟩) m cx]).run P w = .ok (.tuple #[]) { w with heap := w.heap.setIfInBounds b (.cells (splice cur.toList (o + off * sz) vs).toArray e (0, 0)) } := by
        obtain ⟨m', rfl⟩ : ∃ m', m = m' + 1 := ⟨m - 1, by omega⟩
        simp [Builtin.clear_, run_underlying U.h, hzv, ← hvs, hst, splice]
      have hb : b < w.heap.size := (Array.getElem?_eq_some_iff.1 hg).1
      refine .val (w' := { w with heap := w.heap.setIfInBounds b (.cells (splice cur.toList (o + off * sz) vs).toArray e (0, 0)) }) (v := .tuple #[]) (fun _ hm => by simp [execOp, resolve, invoke, builtin, hm.eval hx, hrun]) ⟨rfl, ⟨vs, hl, ?_⟩, ?_⟩
      · refine hs.turn (r.ctx.up _) (?_ : Frm (afoot _) w _) ?_ (fun k hk => ?_)
        · refine { (frm_set (b := b) (o' := .cells (splice cur.toList (o + off * sz) vs).toArray e (0, 0)) w) with old := fun k hk hf => ?_ }
          exact (frm_set w).old k hk (fun h => hf (by cases h; rfl))
        · refine ⟨by rw [splice_length (by omega)]; exact q1, q2, q3, .inr ⟨b, o, (splice cur.toList (o + off * sz) vs).toArray, rfl, by simp [hb], ?_, ?_⟩⟩
          · simp only [List.size_toArray]; rw [splice_length (by simp; omega)]; simpa using hsz
          · show ((splice cur.toList (o + off * sz) vs).drop o).take (n * sz) = _
            rw [splice_window (by omega) (by simp; omega), ht]
        · refine ⟨?_, .inl hk⟩
          simp [Row, afoot] at hk
          subst hk
          simp [hb]
      · refine { (frm_set (b := b) (o' := .cells (splice cur.toList (o + off * sz) vs).toArray e (0, 0)) w) with old := fun k hk hf => ?_ }
        exact (frm_set w).old k hk (fun h => hf (by cases h; rfl))
end
theorem splice_take (xs ys : List Value) (i : Nat) (h : i ≤ xs.length) : (splice xs i ys).take i = xs.take i := by
  unfold splice
  rw [List.append_assoc, List.take_append_of_le_length (by simp; omega), List.take_take, Nat.min_self]
end Go.Eng
