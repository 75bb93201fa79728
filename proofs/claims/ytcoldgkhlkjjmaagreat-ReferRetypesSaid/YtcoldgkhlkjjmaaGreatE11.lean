/- The engine, part 11: copy into a row; callees that are values. -/
import Derived.Test.YtcoldgkhlkjjmaaGreatE10
namespace Go.Eng
open Go.RowKit
section
variable {P : Program} {env : Env} {w0 w w' : World} {F : Nat → Prop} {L L' : List HP} {dst : Option Tmp} {ty : TypeId} {pos : String} {af : Array Edge} {gd : Option (Nat × Bool)} {S : Value → World → Prop}
theorem splice_length {cs vs : List Value} {off : Nat} (h : off + vs.length ≤ cs.length) : (splice cs off vs).length = cs.length := by
  simp only [splice, List.length_append, List.length_take, List.length_drop]; omega
theorem splice_nil (cs : List Value) (off : Nat) : splice cs off [] = cs := by simp [splice]
theorem splice_window {cur vs : List Value} {o off n : Nat} (h : off + vs.length ≤ n) (hn : o + n ≤ cur.length) : ((splice cur (o + off) vs).drop o).take n = splice ((cur.drop o).take n) off vs := by
  apply List.ext_getElem?
  intro i
  simp only [splice, List.getElem?_take, List.getElem?_drop, List.getElem?_append, List.length_append, List.length_take, List.length_drop]
  repeat' split
  all_goals first | rfl | omega | (congr 1; omega) | (rw [List.getElem?_eq_none (by omega)]) | skip
theorem ms_nil {α : Type} : ([] : List (Option α)) = List.map some [] := rfl
theorem ms_cons {α : Type} {a : α} {l : List (Option α)} {os : List α} (h : l = os.map some) : some a :: l = (a :: os).map some := by rw [h]; rfl
/-- copy into a row that is held. -/
theorem OpR_copyRow {t t' e dn dc sn sc n c off : Nat} {a ax' ay : Option Addr} {xs vs : List Value} {x y : Operand} {f : HP → List HP} [U : Und P t (.slice e)] [Z : Sz P e 1] (hs : St w0 F w L) (hx : ev env x = some (.slice ax' dn dc)) (hy : ev env y = some (.slice ay sn sc))
    [r : RowAt L a n c e 1 xs f] (hax : 0 < dn → ax' = a.map (·.add off)) (hoff : off + dn ≤ n) (hsrc : Src w ay (min sn dn) 1 vs) (hp : 0 < min sn dn → PlainA ay) :
    OpR P env ⟨dst, .call ⟨.builtin .copy, #[x, y], #[t, t']⟩, ty, pos, af, gd⟩ w (fun v w' => v = .int .i64 (min sn dn : Nat) ∧ St w0 F w' (f (Row a n c e 1 (splice xs off vs))) ∧ Frm (afoot a) w w') := by
  have hfx : (Builtin.firstCells 1 (min sn dn) (.slice ay sn sc)).run P w = .ok vs.toArray w := run_firstCells_src (c := sc) hsrc hp
  have hl := hsrc.1
  rw [Nat.mul_one] at hl
  have hrow := hs.row a n c
  obtain ⟨q1, q2, q3, q4⟩ := hrow
  by_cases h0 : vs.length = 0
  · have hv : vs = [] := List.eq_nil_of_length_eq_zero h0
    subst hv
    have hsame : St w0 F w (f (Row a n c e 1 xs)) := by
      refine hs.turn (r.ctx.up _) (Ext.refl w |>.frm _) (hs.row a n c) (fun k hk => ⟨?_, .inl hk⟩)
      exact (hs.foot _ (r.ctx.up (Junk 0)).mem k hk).1
    have hm0 : min sn dn = 0 := by simpa using hl.symm
    have hrun : (Builtin.copy_ #[t, t'] ty #[.slice ax' dn dc, .slice ay sn sc]).run P w = .ok (.int .i64 (min sn dn : Nat)) w := by
      have hfx' : (Builtin.firstCells 1 0 (.slice ay sn sc)).run P w = .ok #[] w := by rw [hm0] at hfx; exact hfx
      cases ax' <;> simp [Builtin.copy_, run_underlying U.h, sizeOf_of Z.h, Builtin.lenOf, hfx', hm0, goInt, storeCells]
    refine .val (w' := w) (v := .int .i64 (min sn dn : Nat)) (fun _ hm => by simp [execOp, resolve, invoke, builtin, hm.eval hx, hm.eval hy, hrun]) ⟨rfl, ?_, (Ext.refl w).frm _⟩
    rw [splice_nil]; exact hsame
  · have hd : 0 < dn := by omega
    have hax2 := hax hd
    rcases q4 with ⟨rfl, hc0⟩ | ⟨b, o, cur, rfl, hg, hsz, ht⟩
    · omega
    · simp only [Option.map_some, add_eq, Nat.mul_one] at hax2 hsz ht
      subst hax2
      have hst := run_storeCells_at P b (o + off) e vs 0 cur w hg (by omega) hsrc.2.2.1
      simp only [Nat.add_zero] at hst
      rw [setRow_eq hg] at hst
      have hrun : (Builtin.copy_ #[t, t'] ty #[.slice (some ⟨b, o + off, none⟩) dn dc, .slice ay sn sc]).run P w = .ok (.int .i64 (min sn dn : Nat)) { w with heap := w.heap.setIfInBounds b (.cells (splice cur.toList (o + off) vs).toArray e (0, 0)) } := by
        simp [Builtin.copy_, run_underlying U.h, sizeOf_of Z.h, Builtin.lenOf, hfx, hst, splice, goInt]
      have hb : b < w.heap.size := (Array.getElem?_eq_some_iff.1 hg).1
      refine .val (w' := { w with heap := w.heap.setIfInBounds b (.cells (splice cur.toList (o + off) vs).toArray e (0, 0)) }) (v := .int .i64 (min sn dn : Nat)) (fun _ hm => by simp [execOp, resolve, invoke, builtin, hm.eval hx, hm.eval hy, hrun]) ⟨rfl, ?_, ?_⟩
      · refine hs.turn (r.ctx.up _) (?_ : Frm (afoot _) w _) ?_ (fun k hk => ?_)
        · refine { (frm_set (b := b) (o' := .cells (splice cur.toList (o + off) vs).toArray e (0, 0)) w) with old := fun k hk hf => ?_ }
          exact (frm_set w).old k hk (fun h => hf (by cases h; rfl))
        · refine ⟨?_, q2, q3, .inr ⟨b, o, (splice cur.toList (o + off) vs).toArray, rfl, ?_, ?_, ?_⟩⟩
          · rw [splice_length (by omega)]; exact q1
          · simp [hb]
          · simp only [List.size_toArray, Nat.mul_one]; rw [splice_length (by simp; omega)]; simpa using hsz
          · simp only [Nat.mul_one]
            rw [splice_window (by omega) (by simp; omega), ht]
        · refine ⟨?_, .inl hk⟩
          simp [Row, afoot] at hk
          subst hk
          simp [hb]
      · refine { (frm_set (b := b) (o' := .cells (splice cur.toList (o + off) vs).toArray e (0, 0)) w) with old := fun k hk hf => ?_ }
        exact (frm_set w).old k hk (fun h => hf (by cases h; rfl))
/-- A part of a row, as what is copied or appended. -/
theorem RowV.srcPart {a : Option Addr} {n c e : Nat} {xs : List Value} (h : RowV w a n c e 1 xs) (ho : ∀ u ∈ xs, u.oneCell' = true) {off m : Nat} {a' : Option Addr} (ha : a' = none → m = 0) (hm : off + m ≤ n) (ha' : 0 < m → a' = a.map (·.add off)) : Src w a' m 1 ((xs.drop off).take m) := by
  have hl := h.len
  refine ⟨by simp only [List.length_take, List.length_drop]; omega, ha, fun u hu => ho u (List.mem_of_mem_drop (List.mem_of_mem_take hu)), fun b o hb j u hj => ?_⟩
  rw [List.getElem?_take] at hj
  split at hj
  · rename_i hjm
    rw [List.getElem?_drop] at hj
    obtain ⟨b', o', rfl⟩ := h.some (by omega)
    have := ha' (by omega)
    rw [hb] at this
    simp only [Option.map_some, add_eq, Option.some.injEq, Addr.mk.injEq] at this
    obtain ⟨rfl, rfl, -⟩ := this
    have hc := h.cells rfl hj
    rw [← Nat.add_assoc] at hc
    exact hc
  · cases hj
theorem RowV.plain {a : Option Addr} {n c e sz : Nat} {xs : List Value} (h : RowV w a n c e sz xs) : PlainA a := by
  obtain ⟨_, _, _, h4⟩ := h
  rcases h4 with ⟨rfl, _⟩ | ⟨b, o, cur, rfl, _⟩
  · intro ad h; cases h
  · intro ad h; cases h; rfl
theorem PlainA.add {a : Option Addr} (h : PlainA a) (k : Nat) : PlainA (a.map (·.add k)) := by
  intro ad had
  cases a with
  | none => cases had
  | some x =>
    simp only [Option.map_some, Option.some.injEq] at had
    subst had
    have := h x rfl
    obtain ⟨b, o, s⟩ := x
    simp only at this
    subst this
    rw [add_eq]
/-- A function value of the caller's own making. -/
theorem OpR_callV {cal : Operand} {args : List Operand} {at_ : Array TypeId} {fv : Value} {avs : List Value} (hc : ev env cal = some fv) (ha : evs env args = some avs) (hv : RetV P fv avs.toArray w S) :
    OpR P env ⟨dst, .call ⟨.value cal, args.toArray, at_⟩, ty, pos, af, gd⟩ w S := OpR_call hc ha hv
end
theorem St.foot0 {w0 w : World} {A L : List HP} (h : St w0 NoF w (A ++ L)) : ∀ k, (Star A).foot k → w0.heap.size ≤ k := fun k ⟨c, hc, hk⟩ => ((h.foot c (List.mem_append_left _ hc) k hk).2).resolve_left id
theorem St.old0 {w0 w w1 : World} {F : Nat → Prop} {L : List HP} (hs : St w F w1 L) (hE : Ext w0 w) (hF : ∀ k, F k → w0.heap.size ≤ k) : ∀ k, k < w0.heap.size → w1.heap[k]? = w0.heap[k]? := fun k hk =>
  (hs.frm.old k (Nat.lt_of_lt_of_le hk hE.size) (fun h => by have := hF k h; omega)).trans (hE.block k hk)
theorem St.cell0 {w0 w w1 : World} {F : Nat → Prop} {L : List HP} {p : Addr} {v : Value} (hs : St w F w1 L) (hE : Ext w0 w) (hF : ∀ k, F k → w0.heap.size ≤ k) (hc : w0.cell? p = some v) : w1.cell? p = some v :=
  (World.cell?_of_block (hs.old0 hE hF _ (World.block_lt_of_cell? w0 p hc))).trans hc
end Go.Eng
